/- Copies; slices made; conversions. No program in sight. -/
import Derived.Test.YthdaccndnfgeeaaGreatDoorEvS
import Derived.Laws.BytesString
namespace Go.Proofs.YthdaccndnfgeeaaGreatDoor.CM
open Go
section
variable {P : Program} {ρ : Vl} {B : Nat} {w0 w : World} {h h' : Hp} {n : Nat} {rg : Rg} {a : Act} {call : Cl} {o : Oper} {v : V}
theorem sliceE_some {T e : TypeId} {z : Nat} (hs : sliceE P T = some (e, z)) : ∃ i, P.underlying T = some (.slice e) ∧ P.info? e = some i ∧ i.size = z := by
  unfold sliceE at hs
  split at hs
  · rename_i e' hu
    split at hs
    · rename_i i hi; cases hs; exact ⟨i, hu, hi, rfl⟩
    · cases hs
  · cases hs
theorem cpy_run {ts : Array TypeId} {T e : TypeId} {i : TypeInfo} (h0 : ts[0]? = some T) (hT : P.underlying T = some (.slice e)) (hi : P.info? e = some i) (ty : TypeId) {X : Value} {base : Option Addr} {dLen dCap nx : Nat} {cs : List Value} {w' : World}
    (hm : pev P (Builtin.lenOf X) = some nx) (hn : rdev P (Builtin.firstCells i.size (Nat.min nx dLen) X) w = some cs.toArray) (hst : ∀ ad, base = some ad → (storeCells ad cs).run P w = .ok () w') (hno : base = none → w' = w) :
    (Builtin.copy_ ts ty #[.slice base dLen dCap, X]).run P w = .ok (goInt (Nat.min nx dLen)) w' := by
  have hm' := pev_run hm w
  have hn' := rdev_run hn
  unfold Builtin.copy_
  cases base with
  | none =>
    rw [hno rfl]
    simp only [h0, List.getElem?_toArray, List.getElem?_cons_zero, List.getElem?_cons_succ, Sem.run_bind, run_underlying hT, Result.andThen_ok, run_sizeOf hi, hm', hn', Sem.run_pure]
  | some ad =>
    have := hst ad rfl
    simp only [h0, List.getElem?_toArray, List.getElem?_cons_zero, List.getElem?_cons_succ, Sem.run_bind, run_underlying hT, Result.andThen_ok, run_sizeOf hi, hm', hn', this, Sem.run_pure]
theorem lenV_len {x : V} {X : Value} {k : Nat} (hx : RV ρ x X) (e : lenV x = some k) : pev P (Builtin.lenOf X) = some k := by
  cases hx <;> simp only [lenV, Option.some.injEq, reduceCtorEq] at e <;> first
    | (subst e; rfl)
    | (rw [lenL_eq] at e; subst e; first | rfl | (simp [Builtin.lenOf, pev_pure, bytesOf_size]; done))
theorem cpy_sound (H : RH B w0 ρ h w) {ts : Array TypeId} {T : TypeId} (h0 : ts[0]? = some T) (ty : TypeId) {d x : V} {D X : Value} (hd : RV ρ d D) (hx : RV ρ x X) (e : cpyK P T d x h = some (v, h')) :
    Nx P (do pure (Next.value (← Builtin.copy_ ts ty #[D, X]))) w (PV B w0 ρ v h') := by
  unfold cpyK at e
  split at e
  · rename_i el z hs
    obtain ⟨i, hT, hi, hz⟩ := sliceE_some hs
    subst hz
    split at e
    · rename_i nd nx es hnd hnx hes
      obtain ⟨ys, hy, hyz, hys, hlen, hfirst⟩ := elems_sound (P := P) H hx hes
      have hnx' := lenV_len (P := P) hx hnx
      rw [hlen] at hnx'
      have hnx' : es.length = nx := by simpa using hnx'
      have hmin : minN nx nd = Nat.min nx nd := by
        unfold minN
        cases hb : Nat.ble nd nx with
        | true => have := Nat.le_of_ble_eq_true hb; show nd = min nx nd; omega
        | false =>
          have : ¬ nd ≤ nx := fun hle => by rw [Nat.ble_eq_true_of_le hle] at hb; cases hb
          show nx = min nx nd; omega
      rw [hmin] at e
      have hmle : Nat.min nx nd ≤ es.length := by rw [hnx']; exact Nat.min_le_left _ _
      have hf := hfirst _ hmle
      unfold cpyN at e
      split at e
      · rename_i hm
        obtain ⟨rfl, rfl⟩ := some_pair e
        have hd' : ∃ base c, D = .slice base nd c := by
          cases hd <;> simp only [lenD, Option.some.injEq, reduceCtorEq] at hnd <;> first
            | (subst hnd; exact ⟨_, _, rfl⟩)
            | (rw [lenL_eq] at hnd; subst hnd; exact ⟨_, _, rfl⟩)
        obtain ⟨base, c, rfl⟩ := hd'
        have hm0 : Nat.min nx nd = 0 := hm
        have hrun := cpy_run (w := w) (w' := w) (base := base) (dLen := nd) (dCap := c) (cs := []) h0 hT hi ty hlen (by rw [hnx', hf, hm0]; simp) (fun ad _ => rfl) (fun _ => rfl)
        refine Nx_val hrun (.same H ?_)
        rw [hnx', hm0]
        exact .int _ _
      · rename_i m hm
        split at e
        · rename_i h1 hto
          obtain ⟨rfl, rfl⟩ := some_pair e
          have ht : RVs ρ (cats (takeN (Nat.min nx nd) es)) (ys.take (Nat.min nx nd * i.size)) := by
            rw [takeN_eq, ← cats_take _ hyz]; exact hy.take _
          have htz : ∀ e ∈ takeN (Nat.min nx nd) es, (celV e).length = i.size := fun e he => by rw [takeN_eq] at he; exact hyz e (List.mem_of_mem_take he)
          have hts := all_take hys (Nat.min nx nd * i.size)
          have go : ∀ (r g q q' c : Nat) (b : Bp), ρ b = some (r, g) → D = .slice (some ⟨r, q', none⟩) nd c → q' = q → putEls h b q i.size (takeN (Nat.min nx nd) es) = some h1 → Nx P (do pure (Next.value (← Builtin.copy_ ts ty #[D, X]))) w (PV B w0 ρ (.int .i64 (.ofNat (Nat.min nx nd))) h1) := fun r g q q' c b hρ hD hq hp => by
            subst hD
            subst hq
            obtain ⟨cs, E, fr, g1, g2, g3, g4⟩ := putEls_sound H hρ ht htz hts hp
            have hrun := cpy_run (w := w) (base := some ⟨r, q', none⟩) (dLen := nd) (dCap := c) h0 hT hi ty hlen (by rw [hnx']; exact hf) (fun ad hq => by cases hq; exact run_put g1 g2 g3 hts) (fun h => by cases h)
            refine Nx_val hrun ⟨ρ, .refl _, g4, ?_⟩
            rw [hnx']
            exact .int _ _
          unfold cpyTo at hto
          split at hto
          · rename_i b q k c
            cases hnd
            cases hd with
            | sl _ _ _ _ r g hρ => exact go r g q q c b hρ rfl rfl hto
          · rename_i b q k c
            cases hnd
            cases hd with
            | sg _ _ _ _ r g o' hρ ho hkg =>
              refine go r g q o' _ b hρ rfl (ho.resolve_right ?_) hto
              intro hg
              have h1 : nd = 0 := by omega
              subst h1
              exact hm (Nat.min_eq_right (Nat.zero_le _))
          · cases hto
        · cases e
    · cases e
  · cases e
end
end Go.Proofs.YthdaccndnfgeeaaGreatDoor.CM
