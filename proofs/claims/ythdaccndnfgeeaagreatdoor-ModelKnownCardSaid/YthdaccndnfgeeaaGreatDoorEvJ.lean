/- Slices of slices. No program in sight. -/
import Derived.Test.YthdaccndnfgeeaaGreatDoorEvI
namespace Go.Proofs.YthdaccndnfgeeaaGreatDoor.CM
open Go
section
variable {P : Program} {ρ : Vl} {B : Nat} {w0 w : World} {h h' : Hp} {n : Nat} {rg : Rg} {a : Act} {call : Cl} {o : Oper} {v : V}
/-- A bound that may be left out. -/
inductive RO (ρ : Vl) : Option V → Option Value → Prop
  | none : RO ρ none none
  | some (v : V) (x : Value) (h : RV ρ v x) : RO ρ (some v) (some x)
theorem bnd_some {u : V} {x : Value} {d m r M : Nat} (hx : RV ρ u x) (hM : m ≤ M) (e : bnd (some u) d m = some r) (code : BoundsCode) : pev P (Instr.sliceBound x M code) = some r ∧ r ≤ m := by
  cases u <;> simp only [bnd] at e <;> first | cases e | skip
  case int k i =>
    cases i with
    | negSucc i => cases e
    | ofNat i =>
      simp only at e
      split at e
      · rename_i hle
        have hle := Nat.le_of_ble_eq_true hle
        cases e
        rw [rv_int hx]
        refine ⟨?_, hle⟩
        have : (0 : Int) ≤ Int.ofNat r ∧ Int.ofNat r ≤ (M : Int) := ⟨Int.natCast_nonneg _, by simp; omega⟩
        simp only [Instr.sliceBound, asIntOf, pev_bind, pev_pure, Option.bind_some, if_pos this]
        rfl
      · cases e
theorem bnd2_some {lo : Option V} {lo' : Option Value} {m : Nat} {k : Nat → Nat → Nat → Res} {r : Option Nat} {x : V × Hp} (hl : RO ρ lo lo') (e : bnd2 lo m k r = some x) (code : BoundsCode) :
    ∃ l q, r = some q ∧ pev P (match lo' with | some v => Instr.sliceBound v q code | none => pure 0) = some l ∧ l ≤ q ∧ k l q m = some x := by
  cases r with
  | none => cases e
  | some q =>
    have e : (match bnd lo 0 q with | some l => k l q m | none => none) = some x := e
    cases hl with
    | none => exact ⟨0, q, rfl, rfl, Nat.zero_le _, e⟩
    | some u y hu =>
      split at e
      · rename_i l hb
        obtain ⟨h1, h2⟩ := bnd_some (P := P) hu (Nat.le_refl _) hb code
        exact ⟨l, q, rfl, h1, h2, e⟩
      · cases e
theorem bnds_some {lo hi mx : Option V} {lo' hi' mx' : Option Value} {n c C : Nat} {k : Nat → Nat → Nat → Res} {x : V × Hp} (hl : RO ρ lo lo') (hh : RO ρ hi hi') (hm : RO ρ mx mx') (hnc : n ≤ c) (hC : c ≤ C) (e : bnds lo hi mx n c k = some x) (isS : Bool) :
    ∃ l q m, l ≤ q ∧ q ≤ m ∧ m ≤ c ∧ k l q m = some x ∧ ((mx = none ∧ m = c ∧ pev P (Instr.sliceBounds isS n C lo' hi' mx') = some (l, q, C)) ∨ (mx ≠ none ∧ pev P (Instr.sliceBounds isS n C lo' hi' mx') = some (l, q, m))) := by
  cases hm with
  | none =>
    have e : bnd2 lo c k (bnd hi n c) = some x := e
    obtain ⟨l, q, h1, h2, h3, h4⟩ := bnd2_some (P := P) hl e .sliceB
    have key : pev P (match hi' with | some v => Instr.sliceBound v C (if isS then .sliceAcap else .sliceAlen) | none => pure n) = some q ∧ q ≤ c := by
      cases hh with
      | none => have h1 : some n = some q := h1; cases h1; exact ⟨rfl, hnc⟩
      | some u y hu => exact bnd_some hu hC h1 _
    refine ⟨l, q, c, h3, key.2, Nat.le_refl _, h4, .inl ⟨rfl, rfl, ?_⟩⟩
    cases hi' with
    | none =>
      cases lo' with
      | none =>
        simp only [pev_pure, Option.some.injEq] at key h2
        simp only [Instr.sliceBounds, pev_bind, pev_pure, Option.bind_some]
        simp [key.1, ← h2]
      | some z =>
        simp only [pev_pure, Option.some.injEq] at key h2
        simp only [Instr.sliceBounds, pev_bind, pev_pure, Option.bind_some, Option.isSome_none, Bool.false_eq_true, if_false]
        rw [key.1, h2]; rfl
    | some y =>
      cases lo' with
      | none =>
        simp only [pev_pure, Option.some.injEq] at key h2
        simp only [Instr.sliceBounds, pev_bind, pev_pure, Option.bind_some]
        rw [key.1]; simp [← h2]
      | some z =>
        simp only at key h2
        simp only [Instr.sliceBounds, pev_bind, pev_pure, Option.bind_some, Option.isSome_none, Bool.false_eq_true, if_false]
        rw [key.1]; simp only [Option.bind_some]; rw [h2]; rfl
  | some um ym hum =>
    cases hh with
    | none => cases e
    | some u y hu =>
      have e : (match bnd (some um) c c with | some m => bnd2 lo m k (bnd (some u) n m) | none => none) = some x := e
      split at e
      · rename_i m hb
        obtain ⟨l, q, h1, h2, h3, h4⟩ := bnd2_some (P := P) hl e .slice3C
        obtain ⟨g1, g2⟩ := bnd_some (P := P) hum hC hb (if isS then .slice3Acap else .slice3Alen)
        obtain ⟨g3, g4⟩ := bnd_some (P := P) hu (Nat.le_refl m) h1 .slice3B
        refine ⟨l, q, m, h3, g4, g2, h4, .inr ⟨by simp, ?_⟩⟩
        cases lo' with
        | none =>
          simp only [pev_pure, Option.some.injEq] at h2
          simp only [Instr.sliceBounds, pev_bind, pev_pure, Option.bind_some]
          rw [g1]; simp only [Option.bind_some]; rw [g3]; simp [← h2]
        | some z =>
          simp only at h2
          simp only [Instr.sliceBounds, pev_bind, pev_pure, Option.bind_some, Option.isSome_some, if_true]
          rw [g1]; simp only [Option.bind_some]; rw [g3]; simp only [Option.bind_some]; rw [h2]; rfl
      · cases e
theorem slT_sl {T : TypeId} {z : Nat} (hs : slT P T = .sl z) : ∃ e, P.underlying T = some (.slice e) ∧ szT P e = some z := by
  unfold slT at hs
  split at hs
  · cases hs
  · split at hs <;> cases hs
  · rename_i e hu; split at hs
    · rename_i z' hz; cases hs; exact ⟨e, hu, hz⟩
    · cases hs
  · cases hs
theorem slT_arr {T : TypeId} {m z : Nat} (hs : slT P T = .arr m z) : ∃ e, P.underlying T = some (.array m e) ∧ szT P e = some z := by
  unfold slT at hs
  split at hs
  · cases hs
  · rename_i e hu; split at hs
    · rename_i z' hz; cases hs; exact ⟨_, hu, hz⟩
    · cases hs
  · split at hs <;> cases hs
  · cases hs
theorem slT_str {T : TypeId} (hs : slT P T = .str) : P.underlying T = some .string := by
  unfold slT at hs
  split at hs
  · assumption
  · split at hs <;> cases hs
  · split at hs <;> cases hs
  · cases hs
theorem sizeOf_szT {e : TypeId} {z : Nat} (hz : szT P e = some z) : pev P (sizeOf e) = some z := by rw [pev_sizeOf]; exact hz
theorem pu_slc_sl {T e : TypeId} {z : Nat} (hT : P.underlying T = some (.slice e)) (hz : szT P e = some z) (ad : Option Addr) (n c l q m : Nat) (lo hi mx : Option Value) (hb : pev P (Instr.sliceBounds true n c lo hi mx) = some (l, q, m)) (K : Value → Prop)
    (hK : K (.slice (if m = l then ad else ad.map (·.add (l * z))) (q - l) (m - l))) : Pu P (slc T (.slice ad n c) lo hi mx) K := by
  refine (Pu_of (pev_val ?_)).mpr hK
  simp only [Instr.sliceAt, Instr.slice, pev_bind, pev_underlying, hT, Option.bind_some, hb, sizeOf_szT hz, pev_pure]
theorem pu_slc_arr {T e : TypeId} {z k : Nat} (hT : P.underlying T = some (.array k e)) (hz : szT P e = some z) (ad : Addr) (l q m : Nat) (lo hi mx : Option Value) (hb : pev P (Instr.sliceBounds false k k lo hi mx) = some (l, q, m)) (K : Value → Prop)
    (hK : K (.slice (some (if m = l then ad else ad.add (l * z))) (q - l) (m - l))) : Pu P (slc T (.pointer (some ad)) lo hi mx) K := by
  refine (Pu_of (pev_val ?_)).mpr hK
  simp only [Instr.sliceAt, Instr.sureAddr, pev_bind, pev_underlying, hT, Option.bind_some, hb, sizeOf_szT hz, pev_pure]
theorem pu_slc_str {T : TypeId} (hT : P.underlying T = some .string) (s : ByteArray) (l q : Nat) (lo hi : Option Value) (hb : pev P (Instr.sliceBounds false s.size s.size lo hi none) = some (l, q, s.size)) (K : Value → Prop)
    (hK : K (.string (s.extract l q))) : Pu P (slc T (.string s) lo hi none) K := by
  refine (Pu_of (pev_val ?_)).mpr hK
  simp only [Instr.sliceAt, Instr.slice, pev_bind, pev_underlying, hT, Option.bind_some, hb, pev_pure, Option.isSome_none, Bool.false_eq_true, if_false]
theorem adv_addr (r o z l m : Nat) : (if m = l then (⟨r, o, none⟩ : Addr) else (⟨r, o, none⟩ : Addr).add (l * z)) = ⟨r, adv o z l m, none⟩ := by
  unfold adv
  by_cases e : m = l
  · subst e; rw [if_pos rfl, show Nat.beq m m = true from Nat.beq_refl m]
  · rw [if_neg e]
    have : Nat.beq m l = false := by cases hb : Nat.beq m l with | false => rfl | true => exact absurd (Nat.eq_of_beq_eq_true hb) e
    rw [this, add_ptr]; rfl
theorem adv_map (r o z l m : Nat) : (if m = l then some (⟨r, o, none⟩ : Addr) else (some (⟨r, o, none⟩ : Addr)).map (·.add (l * z))) = some ⟨r, adv o z l m, none⟩ := by
  rw [← adv_addr]; split <;> rfl
theorem bytesOf_size (s : List Nat) : (bytesOf s).size = s.length := by unfold bytesOf; simp [ByteArray.size]
theorem bytesOf_extract (s : List Nat) (l q : Nat) : (bytesOf s).extract l q = bytesOf ((s.drop l).take (q - l)) := by
  unfold bytesOf
  ext1
  simp [List.map_take, List.map_drop, List.take_drop]
theorem slc_sound (H : RH B w0 ρ h w) {T : TypeId} {x : V} {X : Value} {lo hi mx : Option V} {lo' hi' mx' : Option Value} (hx : RV ρ x X) (hl : RO ρ lo lo') (hh : RO ρ hi hi') (hm : RO ρ mx mx') (e : slcV (slT P T) x lo hi mx h = some (v, h')) :
    Pu P (slc T X lo' hi' mx') (RV ρ v) ∧ h' = h := by
  unfold slcV at e
  cases hk : slT P T with
  | no => rw [hk] at e; cases e
  | str =>
    have hT := slT_str hk
    rw [hk] at e
    simp only at e
    split at e
    · rename_i s
      unfold slcStr at e
      split at e
      · cases hm
        rw [lenL_eq] at e
        obtain ⟨l, q, m, h1, h2, h3, h4, h5⟩ := bnds_some (P := P) hl hh .none (Nat.le_refl _) (Nat.le_refl _) e false
        rcases h5 with ⟨_, rfl, h5⟩ | ⟨h5, _⟩
        · cases hx with
          | str _ hs =>
            obtain ⟨rfl, rfl⟩ := some_pair h4
            refine ⟨?_, rfl⟩
            rw [← bytesOf_size] at h5
            refine pu_slc_str hT _ l q _ _ h5 _ ?_
            rw [bytesOf_extract, takeN_eq, dropN_eq]
            exact .str _ fun y hy => hs y (List.mem_of_mem_drop (List.mem_of_mem_take hy))
        · exact absurd rfl h5
      · cases e
    · cases e
  | arr k z =>
    obtain ⟨E, hT, hz⟩ := slT_arr hk
    rw [hk] at e
    simp only at e
    split at e
    · rename_i b q0
      unfold slcPtr at e
      obtain ⟨l, q, m, h1, h2, h3, h4, h5⟩ := bnds_some (P := P) hl hh hm (Nat.le_refl _) (Nat.le_refl _) e false
      have h5 : pev P (Instr.sliceBounds false k k lo' hi' mx') = some (l, q, m) := by
        rcases h5 with ⟨_, rfl, h5⟩ | ⟨_, h5⟩ <;> exact h5
      obtain ⟨rfl, rfl⟩ := some_pair h4
      refine ⟨?_, rfl⟩
      cases hx with
      | ptr _ _ r g hρ =>
        refine pu_slc_arr hT hz _ l q m _ _ _ h5 _ ?_
        rw [adv_addr]
        exact .sl _ _ _ _ r g hρ
    · cases e
  | sl z =>
    obtain ⟨E, hT, hz⟩ := slT_sl hk
    rw [hk] at e
    simp only at e
    unfold slcSlk at e
    split at e
    · -- nil
      obtain ⟨l, q, m, h1, h2, h3, h4, h5⟩ := bnds_some (P := P) hl hh hm (Nat.le_refl _) (Nat.le_refl _) e true
      have h5 : pev P (Instr.sliceBounds true 0 0 lo' hi' mx') = some (l, q, m) := by
        rcases h5 with ⟨_, rfl, h5⟩ | ⟨_, h5⟩ <;> exact h5
      obtain ⟨rfl, rfl⟩ := some_pair h4
      refine ⟨?_, rfl⟩
      cases hx with
      | nils =>
        refine pu_slc_sl hT hz _ _ _ l q m _ _ _ h5 _ ?_
        have : m = 0 := by omega
        have : l = 0 := by omega
        have : q = 0 := by omega
        subst_vars
        exact .nils
    · rename_i b q0 k c
      unfold slcSl at e
      split at e
      · rename_i hkc
        obtain ⟨l, q, m, h1, h2, h3, h4, h5⟩ := bnds_some (P := P) hl hh hm (Nat.le_of_ble_eq_true hkc) (Nat.le_refl _) e true
        have h5 : pev P (Instr.sliceBounds true k c lo' hi' mx') = some (l, q, m) := by
          rcases h5 with ⟨_, rfl, h5⟩ | ⟨_, h5⟩ <;> exact h5
        obtain ⟨rfl, rfl⟩ := some_pair h4
        refine ⟨?_, rfl⟩
        cases hx with
        | sl _ _ _ _ r g hρ =>
          refine pu_slc_sl hT hz _ _ _ l q m _ _ _ h5 _ ?_
          rw [adv_map]
          exact .sl _ _ _ _ r g hρ
      · cases e
    · rename_i b q0 k k0
      unfold slcSg at e
      cases hx with
      | sg _ _ _ _ r g o' hρ ho hkg =>
        split at e
        · obtain ⟨l, q, m, h1, h2, h3, h4, h5⟩ := bnds_some (P := P) (C := g - k0) hl hh hm (Nat.le_refl _) (by omega) e true
          rcases h5 with ⟨_, rfl, h5⟩ | ⟨h5, _⟩
          · obtain ⟨rfl, rfl⟩ := some_pair h4
            refine ⟨?_, rfl⟩
            refine pu_slc_sl hT hz _ _ _ l q _ _ _ _ h5 _ ?_
            have e1 : (if g - k0 = l then some (⟨r, o', none⟩ : Addr) else (some (⟨r, o', none⟩ : Addr)).map (·.add (l * z))) = some ⟨r, adv o' z l (g - k0), none⟩ := adv_map ..
            rw [e1, show g - k0 - l = g - (k0 + l) by omega]
            refine .sg _ _ _ _ r g _ hρ ?_ (by show k0 + l + (q - l) ≤ g; omega)
            by_cases hgl : g - k0 = l
            · right; show g = k0 + l; omega
            · left
              have : o' = q0 := ho.resolve_right (by omega)
              subst this
              unfold adv
              have : Nat.beq (g - k0) l = false := by cases hb : Nat.beq (g - k0) l with | false => rfl | true => exact absurd (Nat.eq_of_beq_eq_true hb) hgl
              rw [this]
          · exact absurd rfl h5
        · split at e
          · cases e
          · rename_i k _ k1
            obtain ⟨l, q, m, h1, h2, h3, h4, h5⟩ := bnds_some (P := P) (C := g - k0) hl hh hm (Nat.le_refl _) (by omega) e true
            rcases h5 with ⟨h5, _⟩ | ⟨_, h5⟩
            · cases h5
            · obtain ⟨rfl, rfl⟩ := some_pair h4
              refine ⟨?_, rfl⟩
              refine pu_slc_sl hT hz _ _ _ l q _ _ _ _ h5 _ ?_
              have : o' = q0 := ho.resolve_right (by omega)
              subst this
              rw [adv_map]
              exact .sl _ _ _ _ r g hρ
    · rename_i r q0 c es z'
      unfold slcRo at e
      cases hzz : Nat.beq z z' with
      | false => rw [hzz] at e; cases e
      | true =>
       rw [hzz] at e
       split at e
       · have hzz := Nat.eq_of_beq_eq_true hzz
         subst hzz
         rw [lenL_eq] at e
         cases hx with
         | ro _ _ _ _ _ xs hes hez hs hc hW =>
           obtain ⟨l, q, m, h1, h2, h3, h4, h5⟩ := bnds_some (P := P) (C := c) hl hh hm (Nat.le_refl _) hc e true
           rcases h5 with ⟨_, rfl, h5⟩ | ⟨h5, _⟩
           · obtain ⟨rfl, rfl⟩ := some_pair h4
             refine ⟨?_, rfl⟩
             refine pu_slc_sl hT hz _ _ _ l q _ _ _ _ h5 _ ?_
             rw [adv_map, takeN_eq, dropN_eq]
             have hlen : ((es.drop l).take (q - l)).length = q - l := by rw [List.length_take, List.length_drop]; omega
             have e1 : cats ((es.drop l).take (q - l)) = ((cats es).drop (l * z)).take ((q - l) * z) := by
               rw [cats_drop l hez, cats_take (q - l) (fun e he => hez e (List.mem_of_mem_drop he))]
             have hcl := cats_len hez
             have hxl := hes.len
             have := RV.ro (ρ := ρ) r (adv q0 z l c) (c - l) ((es.drop l).take (q - l)) z ((xs.drop (l * z)).take ((q - l) * z)) (by rw [e1]; exact (hes.drop _).take _)
               (fun e he => hez e (List.mem_of_mem_drop (List.mem_of_mem_take he))) (all_take (all_drop hs _) _) (by omega) ?_
             · rw [hlen] at this; exact this
             · by_cases hcl' : c = l
               · left
                 have : q - l = 0 := by omega
                 rw [this]; simp
               · rcases hW with rfl | ⟨c0, T0, fr, h6, h7⟩
                 · left; simp
                 · right
                   refine ⟨c0, T0, fr, h6, ?_⟩
                   have e2 : adv q0 z l c = q0 + l * z := by
                     unfold adv
                     have : Nat.beq c l = false := by cases hb : Nat.beq c l with | false => rfl | true => exact absurd (Nat.eq_of_beq_eq_true hb) hcl'
                     rw [this]; rfl
                   rw [e2]
                   conv => rhs; rw [← h7]
                   rw [List.drop_take, List.drop_drop, List.take_take, List.length_take, List.length_drop]
                   
           · exact absurd rfl h5
       · cases e
    · cases e
end
end Go.Proofs.YthdaccndnfgeeaaGreatDoor.CM
