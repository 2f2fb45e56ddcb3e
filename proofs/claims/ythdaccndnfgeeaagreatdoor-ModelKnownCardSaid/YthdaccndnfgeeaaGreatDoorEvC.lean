/- From operations to code: the evaluator's run is a run of the model. No program in sight. -/
import Derived.Test.YthdaccndnfgeeaaGreatDoorEvP
namespace Go.Proofs.YthdaccndnfgeeaaGreatDoor.CM
open Go
section
variable {P : Program} {ρ : Vl} {B : Nat} {w0 w : World} {h : Hp}
/-- The registers, and an activation. -/
def GOk (G : Nat → Option (List V)) (ρ : Vl) : Prop := ∀ n l, G n = some l → RV ρ (.rp n 0 l) (.pointer (some ⟨n, 0, none⟩))
theorem GOk.mono0 {G : Nat → Option (List V)} {ρ ρ' : Vl} (e : Ext0 ρ ρ') (h : GOk G ρ) : GOk G ρ' := fun n l hn => (h n l hn).mono0 e
theorem GOk.mono {G : Nat → Option (List V)} {ρ ρ' : Vl} (e : Ext ρ ρ') (h : GOk G ρ) : GOk G ρ' := fun n l hn => (h n l hn).mono e
structure RR (ρ : Vl) (n : Nat) (rg : Rg) (a : Act) : Prop where
  gl : GOk rg.g ρ
  size : n ≤ a.tmps.toList.length
  defers : a.defers = []
  get : ∀ t, RV ρ (match rg.get (bp t) with | some v => v | none => undV) (nthV a.tmps.toList t)
theorem RR.mono0 {ρ' : Vl} {n : Nat} {rg : Rg} {a : Act} (e : Ext0 ρ ρ') (H : RR ρ n rg a) : RR ρ' n rg a := ⟨H.gl.mono0 e, H.size, H.defers, fun t => (H.get t).mono0 e⟩
theorem RR.mono {ρ' : Vl} {n : Nat} {rg : Rg} {a : Act} (e : Ext ρ ρ') (H : RR ρ n rg a) : RR ρ' n rg a := ⟨H.gl.mono e, H.size, H.defers, fun t => (H.get t).mono e⟩
theorem nth_setV : ∀ (l : List Value) (d t : Nat) (v : Value), d < l.length → nthV (setV l d v) t = if d = t then v else nthV l t
  | [], d, t, v, h => by simp at h
  | x :: l, 0, 0, v, _ => rfl
  | x :: l, 0, t + 1, v, _ => by rw [if_neg (by omega)]; rfl
  | x :: l, d + 1, 0, v, _ => by rw [if_neg (by omega)]; rfl
  | x :: l, d + 1, t + 1, v, h => by
    have := nth_setV l d t v (by simpa using h)
    simp only [setV, nthV, this, Nat.add_right_cancel_iff]
theorem len_setV : ∀ (l : List Value) (d : Nat) (v : Value), (setV l d v).length = l.length
  | [], _, _ => rfl
  | _ :: _, 0, _ => rfl
  | _ :: l, d + 1, v => by simp [setV, len_setV l d v]
theorem RR.put {n : Nat} {rg : Rg} {a : Act} (H : RR ρ n rg a) {dst : Option Tmp} (hd : ∀ d, dst = some d → d < n) {v : V} {x : Value} (hx : RV ρ v x) : RR ρ n (putD rg dst v) (putA a dst x) := by
  cases dst with
  | none => exact H
  | some d =>
    have hd := hd d rfl
    refine ⟨H.gl, by simp [putA, len_setV]; simpa using H.size, H.defers, fun t => ?_⟩
    simp only [putA, putD, Rg.put, Rg.get]
    rw [nth_setV _ _ _ _ (Nat.lt_of_lt_of_le hd H.size), Tr.get_put]
    by_cases e : d = t
    · subst e; simp; exact hx
    · rw [if_neg e, if_neg (fun h => e (bp_inj h))]; exact H.get t
theorem opV_sound {n : Nat} {rg : Rg} {a : Act} (H : RR ρ n rg a) {x : Operand} {v : V} (h : opV rg x = some v) : RV ρ v (evA a x) := by
  cases x with
  | tmp t => simp only [opV, Option.some.injEq] at h; subst h; exact H.get t
  | const c => exact (absV_sound h).1
  | global g =>
    have h : (match rg.g g with | some l => some (V.rp g 0 l) | none => none) = some v := h
    split at h
    · rename_i l hl; cases h; exact H.gl _ _ hl
    · cases h
  | func f => cases h; exact .fn f [] [] .nil
theorem opVs_sound {n : Nat} {rg : Rg} {a : Act} (H : RR ρ n rg a) : ∀ {l : List Operand} {vs : List V}, opVs rg l = some vs → RVs ρ vs (mapV (evA a) l)
  | [], vs, h => by cases h; exact .nil
  | x :: l, vs, h => by
    change (match opV rg x with | some v => (match opVs rg l with | some vs => some (v :: vs) | none => none) | none => none) = some vs at h
    split at h
    · rename_i v hv
      split at h
      · rename_i vs' hvs
        cases h
        exact .cons _ _ _ _ (opV_sound H hv) (opVs_sound H hvs)
      · cases h
    · cases h
def CallOk (P : Program) (G : Nat → Option (List V)) (B : Nat) (w0 : World) (call : FuncId → List V → Hp → Option (V × Hp)) : Prop :=
  ∀ f args h v h', call f args h = some (v, h') → ∀ ρ w xs, GOk G ρ → RH B w0 ρ h w → RVs ρ args xs → Fc P f xs.toArray w (PV B w0 ρ v h')
theorem Pu.pv {s : Sem Next} {v : V} (H : RH B w0 ρ h w) (hp : Pu P s (RV ρ v)) : Pu P s fun x => PV B w0 ρ v h x w := hp.mono fun _ hx => .same H hx
theorem Rd.pv {s : Sem Next} {v : V} (H : RH B w0 ρ h w) (hp : Rd P s w (RV ρ v)) : Rd P s w fun x => PV B w0 ρ v h x w := hp.mono fun _ hx => .same H hx
theorem cv_sound {f : FuncId} {cap args : Array Value} {K : Value → World → Prop} (hf : Fc P f (args ++ cap) w K) : Nx P (cv (.func (.func f) #[] cap) args) w K := by
  refine ⟨?_⟩
  unfold NxD
  have e : cv (.func (.func f) #[] cap) args = callFunc f (args ++ cap) := by
    unfold cv Deferred.ofValue; simp [bind, Sem.bind, pure, invoke]
  rw [e, hf.out.1 w]
  exact hf.out.2
end
end Go.Proofs.YthdaccndnfgeeaaGreatDoor.CM
