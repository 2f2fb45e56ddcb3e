/- One operation: the evaluator's and the model's. No program in sight. -/
import Derived.Test.YthdaccndnfgeeaaGreatDoorEvC
namespace Go.Proofs.YthdaccndnfgeeaaGreatDoor.CM
open Go
section
variable {P : Program} {ρ : Vl} {B : Nat} {w0 w : World} {h h' : Hp} {n : Nat} {rg : Rg} {a : Act} {call : FuncId → List V → Hp → Option (V × Hp)} {o : Oper} {v : V}
theorem vc_pure (hp : pureOp o.op = true) (hm : ∀ x, o.op ≠ .move x) (ha : ∀ x, o.op ≠ .assign x) (hc : ∀ f args ts, o.op ≠ .call { callee := .value (.func f), args, argTypes := ts }) {K : Value → World → Prop}
    (hP : Pu P (semR (evA a) o) fun v => K v w) : vcOp P o a w K := by
  unfold vcOp vcOpR
  split
  · rename_i x hx; exact absurd hx (hm x)
  · rename_i x hx; exact absurd hx (ha x)
  · rename_i f args ts hx; exact absurd hx (hc f args ts)
  · rw [if_pos hp]; exact hP
theorem vc_read (hq : pureOp o.op = false) (hp : readOp o.op = true) {K : Value → World → Prop} (hP : Rd P (semR (evA a) o) w fun v => K v w) : vcOp P o a w K := by
  unfold vcOp vcOpR
  split
  · rename_i x hx; rw [hx] at hp; cases hp
  · rename_i x hx; rw [hx] at hp; cases hp
  · rename_i f args ts hx; rw [hx] at hp; cases hp
  · rw [hq, if_neg (by simp), if_pos hp]; exact hP
theorem vc_loud (hq : pureOp o.op = false) (hp : readOp o.op = false) (hc : ∀ f args ts, o.op ≠ .call { callee := .value (.func f), args, argTypes := ts }) {K : Value → World → Prop} (hP : Nx P (semR (evA a) o) w K) : vcOp P o a w K := by
  unfold vcOp vcOpR
  split
  · rename_i x hx; rw [hx] at hq; cases hq
  · rename_i x hx; rw [hx] at hq; cases hq
  · rename_i f args ts hx; exact absurd hx (hc f args ts)
  · rw [hq, hp, if_neg (by simp), if_neg (by simp)]; exact hP
theorem some_pair {α β : Type} {x y : α} {u v : β} (h : some (x, u) = some (y, v)) : x = y ∧ u = v := by
  simp only [Option.some.injEq, Prod.mk.injEq] at h; exact h

theorem pV_some {r : Option V} {h h' : Hp} {v : V} (e : pV r h = some (v, h')) : r = some v ∧ h = h' := by
  cases r with
  | none => cases e
  | some u => obtain ⟨rfl, rfl⟩ := some_pair e; exact ⟨rfl, rfl⟩
theorem pH_some {r : Option Hp} {h' : Hp} {v : V} (e : pH r = some (v, h')) : r = some h' ∧ v = undV := by
  cases r with
  | none => cases e
  | some u => obtain ⟨rfl, rfl⟩ := some_pair e; exact ⟨rfl, rfl⟩
theorem with1_some {r : Option V} {k : V → Res} {x : V × Hp} (e : with1 r k = some x) : ∃ u, r = some u ∧ k u = some x := by
  cases r with
  | none => cases e
  | some u => exact ⟨u, rfl, e⟩
theorem with2_some {r s : Option V} {k : V → V → Res} {x : V × Hp} (e : with2 r s k = some x) : ∃ u t, r = some u ∧ s = some t ∧ k u t = some x := by
  cases r with
  | none => cases e
  | some u => cases s with
    | none => cases e
    | some t => exact ⟨u, t, rfl, rfl, e⟩
theorem asPtr_some {u : V} {k : Bp → Nat → Res} {x : V × Hp} (e : asPtr u k = some x) : ∃ b q, u = .ptr b q ∧ k b q = some x := by
  cases u <;> first | exact ⟨_, _, rfl, e⟩ | cases e
theorem asPR_some {u : V} {k : Bp → Nat → Res} {k' : Nat → Nat → List V → Res} {x : V × Hp} (e : asPR u k k' = some x) : (∃ b q, u = .ptr b q ∧ k b q = some x) ∨ (∃ r q l, u = .rp r q l ∧ k' r q l = some x) := by
  cases u <;> first | exact .inl ⟨_, _, rfl, e⟩ | exact .inr ⟨_, _, _, rfl, e⟩ | cases e
theorem asNat_some {u : V} {k : Nat → Res} {x : V × Hp} (e : asNat u k = some x) : ∃ j n, u = .int j (.ofNat n) ∧ k n = some x := by
  cases u
  case int j n => cases n with
    | ofNat n => exact ⟨_, _, rfl, e⟩
    | negSucc n => cases e
  all_goals cases e
theorem ex_move (H : RH B w0 ρ h w) (R : RR ρ n rg a) {x : Operand} (hop : o.op = .move x ∨ o.op = .assign x) (he : exR P call rg o h = some (v, h')) : vcOp P o a w (PV B w0 ρ v h') := by
  have he : sMove x call rg h = some (v, h') := by rcases hop with hop | hop <;> (simp only [exR, exO, hop] at he; exact he)
  obtain ⟨hu, rfl⟩ := pV_some he
  unfold vcOp vcOpR
  rcases hop with hop | hop <;> simp only [hop] <;> exact .same H (opV_sound R hu)
theorem ex_fa (H : RH B w0 ρ h w) (R : RR ρ n rg a) {T : TypeId} {x : Operand} {f : Nat} (hop : o.op = .fieldAddr T x f) (he : exR P call rg o h = some (v, h')) : vcOp P o a w (PV B w0 ρ v h') := by
  refine vc_pure (by rw [hop]; rfl) (by simp [hop]) (by simp [hop]) (by simp [hop]) ?_
  have e : semR (evA a) o = fa T (evA a x) f := by simp only [semR, hop, execOp]; rfl
  rw [e]
  simp only [exR, exO, hop] at he
  unfold sFa at he
  cases hk : fi P T f with
  | none => rw [hk] at he; cases he
  | some k =>
    rw [hk] at he
    obtain ⟨u, hu, he⟩ := with1_some he
    rcases asPR_some he with ⟨b, q, rfl, he⟩ | ⟨r, q, l, rfl, he⟩
    · obtain ⟨rfl, rfl⟩ := some_pair he
      exact (fa_sound hk (opV_sound R hu)).pv H
    · obtain ⟨rfl, rfl⟩ := some_pair he
      exact (fa_rp hk (opV_sound R hu)).pv H
theorem ex_ld (H : RH B w0 ρ h w) (R : RR ρ n rg a) {T : TypeId} {x : Operand} (hop : o.op = .load T x) (he : exR P call rg o h = some (v, h')) : vcOp P o a w (PV B w0 ρ v h') := by
  refine vc_read (by rw [hop]; rfl) (by rw [hop]; rfl) ?_
  have e : semR (evA a) o = ld T (evA a x) := by simp only [semR, hop, execOp]; rfl
  rw [e]
  simp only [exR, exO, hop] at he
  obtain ⟨u, hu, he⟩ := with1_some he
  cases hs : shp P T with
  | none => rw [hs] at he; rcases asPR_some he with ⟨b, q, rfl, he⟩ | ⟨r, q, l, rfl, he⟩ <;> cases he
  | some s =>
    obtain ⟨ag, k⟩ := s
    rw [hs] at he
    rcases asPR_some he with ⟨b, q, rfl, he⟩ | ⟨r, q, l, rfl, he⟩
    · obtain ⟨hr, rfl⟩ := pV_some he
      exact (ld_sound H hs (opV_sound R hu) hr).pv H
    · obtain ⟨hr, rfl⟩ := pV_some he
      exact (rp_ld H hs (opV_sound R hu) hr).pv H
theorem ex_st (H : RH B w0 ρ h w) (R : RR ρ n rg a) {T : TypeId} {x y : Operand} (hop : o.op = .store T x y) (he : exR P call rg o h = some (v, h')) : vcOp P o a w (PV B w0 ρ v h') := by
  refine vc_loud (by rw [hop]; rfl) (by rw [hop]; rfl) (by simp [hop]) ?_
  have e : semR (evA a) o = st T (evA a x) (evA a y) := by simp only [semR, hop, execOp]; rfl
  rw [e]
  simp only [exR, exO, hop] at he
  obtain ⟨u, t, hu, ht, he⟩ := with2_some he
  obtain ⟨b, q, rfl, he⟩ := asPtr_some he
  cases hs : szT P T with
  | none => rw [hs] at he; cases he
  | some s =>
    rw [hs] at he
    obtain ⟨hr, rfl⟩ := pH_some he
    exact st_sound H hs (opV_sound R hu) (opV_sound R ht) hr
end
end Go.Proofs.YthdaccndnfgeeaaGreatDoor.CM
