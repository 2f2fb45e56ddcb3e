/- What a run of the evaluator leaves as it was. No program in sight. -/
import Derived.Test.YthdaccndnfgeeaaGreatDoorMo
namespace Go.Proofs.YthdaccndnfgeeaaGreatDoor.CM
open Go
section
variable {P : Program} {G : Nat → Option (List V)} {S : FuncId → List V → Hp → Option Res} {call : Cl}
def MonoK (k : Rg → Hp → Rs) : Prop := ∀ rg h x, k rg h = some x → MW h x.2
theorem stepR_mw (hc : MonoF call) {ops : List Oper} {o : Oper} {k : Rg → Hp → Rs} (hk : MonoK k) : MonoK (stepR P call ops o k) := fun rg h x e => by
  unfold stepR at e
  cases hw : want? ops rg o.guard with
  | false => rw [hw] at e; exact hk _ _ _ e
  | true =>
    rw [hw] at e
    have e : putK o rg (exR P call rg o h) k = some x := e
    unfold putK at e
    cases hx : exR P call rg o h with
    | none => rw [hx] at e; cases e
    | some p => obtain ⟨v, h1⟩ := p; rw [hx] at e; exact (exR_mono hc rg o h v h1 hx).trans (hk _ _ _ e)
theorem opsR_mw (hc : MonoF call) (ops : List Oper) : ∀ l : List Oper, MonoK (opsR P call ops l)
  | [] => fun rg h x e => by cases e; exact .refl _
  | o :: l => stepR_mw (P := P) hc (opsR_mw hc ops l)
theorem loudK_mw {k : Pnd → Rg → Hp → Rs} (hk : ∀ p, MonoK (k p)) (p : Pnd) : MonoK (loudK k p) := fun rg h x e => by
  unfold loudK at e
  cases ha : allP h p with
  | false => rw [ha] at e; cases e
  | true => rw [ha] at e; exact hk _ _ _ _ e
theorem quietR_mw (hc : MonoF call) {ops : List Oper} {o : Oper} {i : Nat} {p : Pnd} {k : Pnd → Rg → Hp → Rs} (hk : ∀ p, MonoK (k p)) : MonoK (quietR P call ops o i p k) := fun rg h x e => by
  unfold quietR at e
  cases hw : want? ops rg o.guard with
  | false => rw [hw] at e; exact hk _ _ _ _ e
  | true =>
    rw [hw] at e
    have e : quietK P call o i p k rg h (exR P call rg o h) = some x := e
    unfold quietK at e
    cases hx : exR P call rg o h with
    | none => rw [hx] at e; cases e
    | some q => obtain ⟨v, h1⟩ := q; rw [hx] at e; exact (exR_mono hc rg o h v h1 hx).trans (hk _ _ _ _ e)
theorem anyR_mw (hc : MonoF call) (ops : List Oper) (em tb : List Nat) : ∀ (fuel m : Nat) (fl : Option Nat) (p : Pnd), MonoK (anyR P call ops em tb fuel m fl p)
  | 0, m, fl, p => fun rg h x e => by
    have e : Bool.rec none (some (rg, h)) (end0 em m) = some x := e
    cases he : end0 em m with
    | false => rw [he] at e; cases e
    | true => rw [he] at e; cases e; exact .refl _
  | fuel + 1, m, fl, p => fun rg h x e => by
    have ih := anyR_mw hc ops em tb fuel
    have e : anyK P call ops tb (nextB P ops em m fl) fl (fun i => anyR P call ops em tb fuel (Nat.lor m (Nat.pow 2 i))) p rg h = some x := e
    unfold anyK at e
    split at e
    · cases e; exact .refl _
    · cases e
    · split at e
      · cases e
      · exact quietR_mw hc (fun _ => ih _ _ _) _ _ _ e
    · split at e
      · cases e
      · exact stepR_mw hc (loudK_mw (fun _ => ih _ _ _) _) _ _ _ e
    · split at e
      · cases e
      · split at e
        · cases e
        · split at e
          · exact stepR_mw hc (loudK_mw (fun _ => ih _ _ _) _) _ _ _ e
          · cases e
def EvMono (self : Cd) : Prop := ∀ c rg h x, self c rg h = some x → MW h x.2.2
theorem thenR_mw {r : Rx} {k : Rg → Hp → Rx} {h : Hp} {x : Ex × Rg × Hp} (e : thenR r k = some x) (hr : ∀ y, r = some y → MW h y.2.2) (hk : ∀ rg h y, k rg h = some y → MW h y.2.2) : MW h x.2.2 := by
  unfold thenR at e
  split at e
  · rename_i q rg h1
    cases q with
    | nm => exact (hr _ rfl).trans (hk _ _ _ e)
    | ret => cases e; exact hr _ rfl
    | exit id => cases e; exact hr _ rfl
  · cases e
theorem evC_mw (hc : MonoF call) {self : Cd} (hs : EvMono self) : EvMono fun c => evC P c call self := fun c rg h x e => by
  have e : evC P c call self rg h = some x := e
  unfold evC at e
  cases c with
  | skip => cases e; exact .refl _
  | label l => cases e; exact .refl _
  | exit id => cases e; exact .refl _
  | ret => cases e; exact .refl _
  | goto l => cases e
  | refuse s => cases e
  | rangeFunc g ps x y => cases e
  | scope c => exact hs c rg h x e
  | block id c =>
    have e : blkR id (self c rg h) = some x := e
    unfold blkR at e
    split at e
    · rename_i q rg1 h1 hx; cases e; exact hs c rg h (q, rg1, h1) hx
    · cases e
  | seq a b => exact thenR_mw (r := self a rg h) (k := self b) e (fun y hy => hs _ _ _ _ hy) fun rg h y hy => hs _ _ _ _ hy
  | cond c a b =>
    have e : Option.rec none (fun v => condK v (self a rg h) (self b rg h)) (opV rg c) = some x := e
    cases hv : opV rg c with
    | none => rw [hv] at e; cases e
    | some v =>
      rw [hv] at e
      have e : condK v (self a rg h) (self b rg h) = some x := e
      cases v with
      | bool q => cases q; exact hs _ _ _ _ e; exact hs _ _ _ _ e
      | _ => cases e
  | loop c => exact thenR_mw (r := self c rg h) (k := self (.loop c)) e (fun y hy => hs _ _ _ _ hy) fun rg h y hy => hs _ _ _ _ hy
  | region id ops draw =>
    have nm : ∀ {r : Rs}, nmK r = some x → ∃ y, r = some y ∧ x.2.2 = y.2 := fun {r} hr => by
      unfold nmK at hr
      cases r with
      | none => cases hr
      | some p => obtain ⟨q1, q2⟩ := p; cases hr; exact ⟨_, rfl, rfl⟩
    cases draw with
    | false =>
      obtain ⟨y, hy, h2⟩ := nm (r := opsR P call ops.toList ops.toList rg h) e
      rw [h2]; exact opsR_mw hc _ _ _ _ _ hy
    | true =>
      obtain ⟨y, hy, h2⟩ := nm (r := anyR P call ops.toList (emasks ops.toList) (Region.before ops).toList ops.size 0 none [] rg h) e
      rw [h2]; exact anyR_mw hc _ _ _ _ _ _ _ _ _ _ hy
def SMono (S : FuncId → List V → Hp → Option Res) : Prop := ∀ f args h v h1, S f args h = some (some (v, h1)) → MW h h1
theorem callR_mw (hS : SMono S) {self : Cd} (hs : EvMono self) : MonoF (callR P G S self) := fun f args h v h1 he => by
  unfold callR at he
  cases hsm : S f args h with
  | some r =>
    rw [hsm] at he
    have he : r = some (v, h1) := he
    subst he
    exact hS f args h v h1 hsm
  | none =>
    rw [hsm] at he
    have he : bodyR P f (fun c l => retR P l (self c (argsR args 0 ⟨.e, G⟩) h)) = some (v, h1) := he
    have key : ∀ l r, (∀ y, r = some y → MW h y.2.2) → retR P l r = some (v, h1) → MW h h1 := fun l r hr e => by
      unfold retR at e
      split at e
      · cases e
      · have ho : ∀ {q : Option (List V)} {h2 : Hp}, outV q h2 = some (v, h1) → h1 = h2 := fun {q h2} ho => by
          unfold outV at ho
          split at ho
          · cases ho; rfl
          · cases ho; rfl
          · cases ho
        rw [ho e]; exact hr _ rfl
      · cases e
    unfold bodyR at he
    cases hf : P.funcs[f]? with
    | none => rw [hf] at he; cases he
    | some fn =>
      rw [hf] at he
      simp only at he
      cases hfn : okFn fn with
      | false => rw [hfn] at he; cases he
      | true => rw [hfn] at he; exact key _ _ (fun y hy => hs _ _ _ _ hy) he
theorem ev_mw (hS : SMono S) : ∀ n, EvMono (ev P G S n)
  | 0 => fun c rg h x e => by cases e
  | n + 1 => evC_mw (callR_mw hS (ev_mw hS n)) (ev_mw hS n)
theorem run_mw (hS : SMono S) (n : Nat) : MonoF (runF P G S n) := callR_mw hS (ev_mw hS n)
end
end Go.Proofs.YthdaccndnfgeeaaGreatDoor.CM
