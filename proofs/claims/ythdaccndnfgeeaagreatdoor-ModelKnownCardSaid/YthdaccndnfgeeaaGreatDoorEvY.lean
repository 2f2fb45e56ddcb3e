/- Equality, lengths, the smaller and the larger, array pointers, maps. No program in sight. -/
import Derived.Test.YthdaccndnfgeeaaGreatDoorEvQ
namespace Go.Proofs.YthdaccndnfgeeaaGreatDoor.CM
open Go
section
variable {P : Program} {ρ : Vl} {B : Nat} {w0 w : World} {h h' : Hp} {n : Nat} {rg : Rg} {a : Act} {call : Cl} {o : Oper} {v : V}
theorem pev_guard {op : BinOp} {T : TypeId} {X Y : Operand} {x y : Value} (h1 : x ≠ .nilIface) (h2 : (∃ cs, x = .agg cs) → P.eqGuardType P.depth T = false) : pev P (eqGuard op T X Y x y) = some () := by
  unfold eqGuard
  cases op <;> first
    | rfl
    | (cases x <;> first
        | rfl
        | exact absurd rfl h1
        | (cases y <;> first
          | rfl
          | (have := h2 ⟨_, rfl⟩; simp [pev_bind, program, pev, this, pev_pure])))
section pq
variable {T e : TypeId} {d : Nat}
theorem pq_bool (hu : P.underlying T = some .bool) {a b : Bool} : pev P (Op.equalIn (d + 1) T (.bool a) (.bool b)) = some (a == b) := by
  simp only [Op.equalIn, pev_bind, pev_underlying, hu, pev_pure, Option.bind_some]
theorem pq_ptr1 (hu : P.underlying T = some (.pointer e)) {p : Option Addr} : pev P (Op.equalIn (d + 1) T (.pointer none) (.pointer p)) = some p.isNone := by
  simp only [Op.equalIn, pev_bind, pev_underlying, hu, pev_pure, Option.bind_some]
theorem pq_ptr2 (hu : P.underlying T = some (.pointer e)) {p : Addr} : pev P (Op.equalIn (d + 1) T (.pointer (some p)) (.pointer none)) = some false := by
  simp only [Op.equalIn, pev_bind, pev_underlying, hu, pev_pure, Option.bind_some]
theorem pq_sl1 (hu : P.underlying T = some (.slice e)) {p : Option Addr} {l c l' c' : Nat} : pev P (Op.equalIn (d + 1) T (.slice none l' c') (.slice p l c)) = some p.isNone := by
  simp only [Op.equalIn, pev_bind, pev_underlying, hu, pev_pure, Option.bind_some]
theorem pq_sl2 (hu : P.underlying T = some (.slice e)) {p : Addr} {l c l' c' : Nat} : pev P (Op.equalIn (d + 1) T (.slice (some p) l c) (.slice none l' c')) = some false := by
  simp only [Op.equalIn, pev_bind, pev_underlying, hu, pev_pure, Option.bind_some]
theorem pq_map1 {k : TypeId} (hu : P.underlying T = some (.map k e)) {p : Option Nat} : pev P (Op.equalIn (d + 1) T (.map none) (.map p)) = some p.isNone := by
  simp only [Op.equalIn, pev_bind, pev_underlying, hu, pev_pure, Option.bind_some]
theorem pq_map2 {k : TypeId} (hu : P.underlying T = some (.map k e)) {p : Nat} : pev P (Op.equalIn (d + 1) T (.map (some p)) (.map none)) = some false := by
  simp only [Op.equalIn, pev_bind, pev_underlying, hu, pev_pure, Option.bind_some]
theorem pq_f1 {a1 a2 a3} (hu : P.underlying T = some (.func a1 a2 a3)) : pev P (Op.equalIn (d + 1) T .nilFunc .nilFunc) = some true := by
  simp only [Op.equalIn, pev_bind, pev_underlying, hu, pev_pure, Option.bind_some]
theorem pq_f2 {a1 a2 a3} (hu : P.underlying T = some (.func a1 a2 a3)) {f : Fn} {x y : Array Value} : pev P (Op.equalIn (d + 1) T .nilFunc (.func f x y)) = some false := by
  simp only [Op.equalIn, pev_bind, pev_underlying, hu, pev_pure, Option.bind_some]
theorem pq_f3 {a1 a2 a3} (hu : P.underlying T = some (.func a1 a2 a3)) {f : Fn} {x y : Array Value} : pev P (Op.equalIn (d + 1) T (.func f x y) .nilFunc) = some false := by
  simp only [Op.equalIn, pev_bind, pev_underlying, hu, pev_pure, Option.bind_some]
end pq
theorem eqV_sound {T : TypeId} {p q : V} {x y : Value} {b : Bool} (hx : RV ρ p x) (hy : RV ρ q y) (e : eqV P T p q = some b) :
    pev P (binOp .eql T x y) = some (.bool b) ∧ pev P (binOp .neq T x y) = some (.bool (Bool.not b)) ∧ x ≠ .nilIface ∧ ((∃ cs, x = .agg cs) → P.eqGuardType P.depth T = false) := by
  have eqd : ∀ {b : Bool}, pev P (Op.equalIn (9999 + 1) T x y) = some b → (∀ k i, x ≠ .int k i) → (∀ s, x ≠ .string s) → (∀ k i, x ≠ .float k i) → (∀ k i j, x ≠ .complex k i j) → pev P (binOp .eql T x y) = some (.bool b) ∧ pev P (binOp .neq T x y) = some (.bool (Bool.not b)) := fun {b} h h1 h2 h3 h4 => by
    have h' : pev P (Op.equalIn Op.maxDepth T x y) = some b := h
    have e1 : binOp .eql T x y = (do pure (.bool (← Op.equal T x y))) := by
      unfold binOp
      cases x <;> first
        | exact absurd rfl (h1 _ _)
        | exact absurd rfl (h2 _)
        | exact absurd rfl (h3 _ _)
        | exact absurd rfl (h4 _ _ _)
        | rfl
    have e2 : binOp .neq T x y = (do pure (.bool (!(← Op.equal T x y)))) := by
      unfold binOp
      cases x <;> first
        | exact absurd rfl (h1 _ _)
        | exact absurd rfl (h2 _)
        | exact absurd rfl (h3 _ _)
        | exact absurd rfl (h4 _ _ _)
        | rfl
    rw [e1, e2]
    simp only [Op.equal, pev_bind, h', pev_pure, Option.bind_some, true_and]
  unfold eqV at e
  split at e
  · rename_i k i
    split at e
    · rename_i k' j
      split at e
      · rename_i hk
        have := kbeq_eq hk
        subst this
        simp only [Option.some.injEq] at e
        subst e
        rw [rv_int hx, rv_int hy, eqI_eq]
        refine ⟨?_, ?_, by simp, by rintro ⟨cs, h⟩; cases h⟩ <;> simp [binOp, Op.intCmp, pev_pure]
        rfl
      · cases e
    · cases e
  · rename_i s
    split at e
    · rename_i t
      simp only [Option.some.injEq] at e
      subst e
      cases hx with
      | str _ hs =>
        cases hy with
        | str _ ht =>
          rw [← strEq_bytes hs ht]
          refine ⟨?_, ?_, by simp, by rintro ⟨cs, h⟩; cases h⟩ <;> simp [binOp, Op.stringOp, pev_pure, beq_toListBytes]
          try rfl
    · cases e
  · rename_i l
    split at e
    · rename_i m
      split at e
      · cases e
      · rename_i hg
        have fin : ∀ ls, lvs P 60 T = some ls → aggEq ls l m = some b → ((∃ fs, P.underlying T = some (.struct fs)) ∨ ∃ k e, P.underlying T = some (.array k e)) → pev P (Op.equalIn (9999 + 1) T x y) = some b := fun ls hl he hu => by
          unfold aggEq at he
          split at he
          · rename_i hlen
            simp only [Bool.and_eq_true] at hlen
            have h1 := Nat.eq_of_beq_eq_true hlen.1
            have h2 := Nat.eq_of_beq_eq_true hlen.2
            rw [lenL_eq, lenL_eq] at h1 h2
            cases hx with
            | agg _ cx hlx hsx =>
              cases hy with
              | agg _ cy hly hsy =>
                refine lvs_sound (ρ := ρ) 60 T ls hl (9999 + 1) (by omega) l m cx cy _ _ b hlx hly h1.symm h2.symm he ?_ ?_
                · unfold Vf; rcases hu with ⟨fs, hu⟩ | ⟨k, e, hu⟩ <;> rw [hu]
                · unfold Vf; rcases hu with ⟨fs, hu⟩ | ⟨k, e, hu⟩ <;> rw [hu]
          · cases he
        split at e
        · split at e
          · rename_i ls hl
            have := fin ls hl e (by first | exact .inl ⟨_, by assumption⟩ | exact .inr ⟨_, _, by assumption⟩)
            cases hx
            obtain ⟨h1, h2⟩ := eqd this (by simp) (by simp) (by simp) (by simp)
            exact ⟨h1, h2, by simp, fun _ => hg⟩
          · cases e
        · split at e
          · rename_i ls hl
            have := fin ls hl e (by first | exact .inl ⟨_, by assumption⟩ | exact .inr ⟨_, _, by assumption⟩)
            cases hx
            obtain ⟨h1, h2⟩ := eqd this (by simp) (by simp) (by simp) (by simp)
            exact ⟨h1, h2, by simp, fun _ => hg⟩
          · cases e
        · cases e
    · cases e
  · split at e
    · rename_i hu
      split at e
      · simp only [Option.some.injEq] at e
        subst e
        cases hx; cases hy
        rw [boolEq_eq]
        obtain ⟨h1, h2⟩ := eqd (pq_bool hu) (by simp) (by simp) (by simp) (by simp)
        exact ⟨h1, h2, by simp, by rintro ⟨cs, h⟩; cases h⟩
      · cases e
    · rename_i el hu
      split at e <;> first
        | (simp only [Option.some.injEq] at e
           subst e
           cases hx; cases hy
           obtain ⟨h1, h2⟩ := eqd (by first | exact pq_ptr1 hu | exact pq_ptr2 hu) (by simp [ptr]) (by simp [ptr]) (by simp [ptr]) (by simp [ptr])
           exact ⟨h1, h2, by simp [ptr], by rintro ⟨cs, h⟩; cases h⟩)
        | cases e
    · rename_i el hu
      split at e <;> first
        | (simp only [Option.some.injEq] at e
           subst e
           cases hx; cases hy
           obtain ⟨h1, h2⟩ := eqd (by first | exact pq_sl1 hu | exact pq_sl2 hu | exact pq_map1 hu | exact pq_map2 hu | exact pq_f1 hu | exact pq_f2 hu | exact pq_f3 hu) (by simp) (by simp) (by simp) (by simp)
           exact ⟨h1, h2, by simp, by rintro ⟨cs, h⟩; cases h⟩)
        | cases e
    · rename_i k el hu
      split at e <;> first
        | (simp only [Option.some.injEq] at e
           subst e
           cases hx; cases hy
           obtain ⟨h1, h2⟩ := eqd (by first | exact pq_sl1 hu | exact pq_sl2 hu | exact pq_map1 hu | exact pq_map2 hu | exact pq_f1 hu | exact pq_f2 hu | exact pq_f3 hu) (by simp) (by simp) (by simp) (by simp)
           exact ⟨h1, h2, by simp, by rintro ⟨cs, h⟩; cases h⟩)
        | cases e
    · rename_i a1 a2 a3 hu
      split at e <;> first
        | (simp only [Option.some.injEq] at e
           subst e
           cases hx; cases hy
           obtain ⟨h1, h2⟩ := eqd (by first | exact pq_sl1 hu | exact pq_sl2 hu | exact pq_map1 hu | exact pq_map2 hu | exact pq_f1 hu | exact pq_f2 hu | exact pq_f3 hu) (by simp) (by simp) (by simp) (by simp)
           exact ⟨h1, h2, by simp, by rintro ⟨cs, h⟩; cases h⟩)
        | cases e
    · cases e
theorem ex_eq (H : RH B w0 ρ h w) (R : RR ρ n rg a) {op : BinOp} {T T' : TypeId} {x y : Operand} (hop : o.op = .binOp op T x y T') (heq : op = .eql ∨ op = .neq) (he : exR P call rg o h = some (v, h')) : vcOp P o a w (PV B w0 ρ v h') := by
  refine vc_pure (by rw [hop]; rfl) (by simp [hop]) (by simp [hop]) (by simp [hop]) ?_
  simp only [exR, exO, hop] at he
  obtain ⟨u, t, hu, ht, he⟩ := with2_some he
  obtain ⟨hr, rfl⟩ := pV_some he
  have R1 := opV_sound R hu
  have R2 := opV_sound R ht
  have e1 : semR (evA a) o = (do pure (.value (← (do eqGuard op T x y (evA a x) (evA a y); binOp op T (evA a x) (evA a y))))) := by simp only [semR, hop, execOp]
  rw [e1]
  rcases heq with rfl | rfl
  · have hr : eqK (eqV P T u t) = some v := hr
    cases hb : eqV P T u t with
    | none => rw [hb] at hr; cases hr
    | some b =>
      rw [hb] at hr
      cases hr
      obtain ⟨h1, h2, h3, h4⟩ := eqV_sound R1 R2 hb
      exact ((Pu_of (pev_val (v := .bool b) (by simp only [pev_bind, pev_guard h3 h4, Option.bind_some, h1]))).mpr (RV.bool b) : Pu P _ (RV ρ (.bool b))).pv H
  · have hr : neK (eqV P T u t) = some v := hr
    cases hb : eqV P T u t with
    | none => rw [hb] at hr; cases hr
    | some b =>
      rw [hb] at hr
      cases hr
      obtain ⟨h1, h2, h3, h4⟩ := eqV_sound R1 R2 hb
      exact ((Pu_of (pev_val (v := .bool (Bool.not b)) (by simp only [pev_bind, pev_guard h3 h4, Option.bind_some, h2]))).mpr (RV.bool _) : Pu P _ (RV ρ (.bool (Bool.not b)))).pv H
end
end Go.Proofs.YthdaccndnfgeeaaGreatDoor.CM
