/- Slices, elements and parts of values; what is built of parts. No program in sight. -/
import Derived.Test.YthdaccndnfgeeaaGreatDoorEvJ
namespace Go.Proofs.YthdaccndnfgeeaaGreatDoor.CM
open Go
section
variable {P : Program} {ρ : Vl} {B : Nat} {w0 w : World} {h h' : Hp} {n : Nat} {rg : Rg} {a : Act} {call : Cl} {o : Oper} {v : V}
theorem optV_sound (R : RR ρ n rg a) {x : Option Operand} {r : Option V} (e : optV rg x = some r) : RO ρ r (x.map (evA a)) := by
  cases x with
  | none => cases e; exact .none
  | some x =>
    have e : (match opV rg x with | some v => some (some v) | none => none) = some r := e
    split at e
    · rename_i v hv; cases e; exact .some _ _ (opV_sound R hv)
    · cases e
theorem ex_slc (H : RH B w0 ρ h w) (R : RR ρ n rg a) {T : TypeId} {x : Operand} {lo hi mx : Option Operand} (hop : o.op = .slice T x lo hi mx) (he : exR P call rg o h = some (v, h')) : vcOp P o a w (PV B w0 ρ v h') := by
  refine vc_pure (by rw [hop]; rfl) (by simp [hop]) (by simp [hop]) (by simp [hop]) ?_
  have e : semR (evA a) o = slc T (evA a x) (lo.map (evA a)) (hi.map (evA a)) (mx.map (evA a)) := by simp only [semR, hop, execOp]; rfl
  rw [e]
  simp only [exR, exO, hop] at he
  unfold sSlc at he
  split at he
  · rename_i x' lo' hi' mx' hx hlo hhi hmx
    obtain ⟨h1, rfl⟩ := slc_sound H (opV_sound R hx) (optV_sound R hlo) (optV_sound R hhi) (optV_sound R hmx) he
    exact h1.pv H
  · cases he
theorem ivT_arr {T : TypeId} {m z : Nat} {ag : Bool} (hs : ivT P T = .arr m ag z) : ∃ e, P.underlying T = some (.array m e) ∧ shp P e = some (ag, z) := by
  unfold ivT at hs
  split at hs
  · rename_i e hu
    split at hs
    · rename_i ag' z' hz; cases hs; exact ⟨_, hu, hz⟩
    · cases hs
  · cases hs
  · cases hs
theorem ivT_str {T : TypeId} (hs : ivT P T = .str) : P.underlying T = some .string := by
  unfold ivT at hs
  split at hs
  · split at hs <;> cases hs
  · assumption
  · cases hs
theorem shp_szT {T : TypeId} {ag : Bool} {z : Nat} (hs : shp P T = some (ag, z)) : szT P T = some z := by
  unfold shp at hs
  cases hu : P.underlying T with
  | none => rw [hu] at hs; cases hs
  | some d =>
    rw [hu] at hs
    simp only [Option.bind_some] at hs
    unfold szT
    cases hi : P.info? T with
    | none => rw [hi] at hs; cases hs
    | some i => rw [hi] at hs; simp only [Option.map_some, Option.some.injEq, Prod.mk.injEq] at hs ⊢; exact hs.2
theorem ixv_sound {T : TypeId} {x : V} {X : Value} {k : IntKind} {j : Nat} (hx : RV ρ x X) (e : ixvV (ivT P T) x j h = some (v, h')) : Pu P (ixv T X (.int k (.ofNat j))) (RV ρ v) ∧ h' = h := by
  unfold ixvV at e
  cases hk : ivT P T with
  | no => rw [hk] at e; cases e
  | str =>
    have hT := ivT_str hk
    rw [hk] at e
    simp only at e
    split at e
    · rename_i s
      split at e
      · rename_i c hc
        obtain ⟨rfl, rfl⟩ := some_pair e
        refine ⟨?_, rfl⟩
        rw [nth?_eq] at hc
        cases hx with
        | str _ hs =>
          have hb := hs c (List.mem_of_getElem? hc)
          refine (Pu_of (pev_val (v := .int .u8 (.ofNat c)) ?_)).mpr (.int _ _)
          have hlt := (List.getElem?_eq_some_iff.1 hc).1
          have hsz : j < (bytesOf s).size := by rw [bytesOf_size]; exact hlt
          have hget : (bytesOf s)[j]? = some (UInt8.ofNat c) := by
            have : (bytesOf s)[j]'hsz = UInt8.ofNat c := by
              have h9 := (List.getElem?_eq_some_iff.1 hc).2
              show ((s.map UInt8.ofNat).toArray)[j]'(by simpa using hlt) = _
              simp [h9]
            rw [getElem?_pos (bytesOf s) j hsz, this]
          simp only [Instr.index, asIntOf, pev_bind, pev_pure, Option.bind_some, pev_underlying, hT]
          have h0 : (0 : Int) ≤ Int.ofNat j := Int.natCast_nonneg j
          simp only [h0, if_true]
          have e1 : (Int.ofNat j).toNat = j := rfl
          rw [e1, hget]
          simp only [pev_pure, Option.some.injEq, Value.int.injEq, true_and]
          rw [UInt8.toNat_ofNat']
          show ((c % 2 ^ 8 : Nat) : Int) = Int.ofNat c
          rw [Nat.mod_eq_of_lt (by omega)]; rfl
      · cases e
    · cases e
  | arr m ag z =>
    obtain ⟨E, hT, hz⟩ := ivT_arr hk
    rw [hk] at e
    simp only at e
    split at e
    · rename_i l
      unfold ixvA at e
      split at e
      · rename_i hlt
        have hlt : j < m := Nat.le_of_ble_eq_true hlt
        cases hx with
        | agg _ cs hl hs =>
          have h1 : pev P (Instr.index T (.agg cs.toArray) (.int k (.ofNat j))) = if ag = true then some (.agg (cs.toArray.extract (j * z) (j * z + z))) else cs.toArray[j * z]? := by
            have h0 : (0 : Int) ≤ Int.ofNat j ∧ Int.ofNat j < (m : Int) := ⟨Int.natCast_nonneg j, by simpa using hlt⟩
            simp only [Instr.index, asIntOf, pev_bind, pev_pure, Option.bind_some, pev_underlying, hT, if_pos h0, sizeOf_szT (shp_szT hz)]
            exact pev_part hz _ _
          split at e
          · obtain ⟨rfl, rfl⟩ := some_pair e
            refine ⟨?_, rfl⟩
            rw [if_pos rfl] at h1
            refine (Pu_of (pev_val h1)).mpr ?_
            have e2 : cs.toArray.extract (j * z) (j * z + z) = ((cs.drop (j * z)).take z).toArray := by
              apply Array.ext'; simp [List.take_drop]
            rw [e2, takeN_eq, dropN_eq]
            exact .agg _ _ ((hl.drop _).take _) (all_take (all_drop hs _) _)
          · obtain ⟨h2, rfl⟩ := pV_some e
            refine ⟨?_, rfl⟩
            rw [nth?_eq] at h2
            obtain ⟨y, h3, h4⟩ := hl.get h2
            have h3' : cs[j * z]? = some y := h3
            rw [if_neg (by simp)] at h1
            refine (Pu_of (pev_val (v := y) ?_)).mpr h4
            rw [h1]; simpa using h3'
      · cases e
    · cases e
theorem ex_ixv (H : RH B w0 ρ h w) (R : RR ρ n rg a) {T : TypeId} {x i : Operand} (hop : o.op = .index T x i) (he : exR P call rg o h = some (v, h')) : vcOp P o a w (PV B w0 ρ v h') := by
  refine vc_pure (by rw [hop]; rfl) (by simp [hop]) (by simp [hop]) (by simp [hop]) ?_
  have e : semR (evA a) o = ixv T (evA a x) (evA a i) := by simp only [semR, hop, execOp]; rfl
  rw [e]
  simp only [exR, exO, hop] at he
  obtain ⟨u, t, hu, ht, he⟩ := with2_some he
  obtain ⟨k, j, rfl, he⟩ := asNat_some he
  have R2 := opV_sound R ht
  rw [rv_int R2]
  obtain ⟨h1, rfl⟩ := ixv_sound (k := k) (opV_sound R hu) he
  exact h1.pv H

/-! ### Built of parts -/
inductive RPs (ρ : Vl) : List (Nat × V) → List (Nat × Value) → Prop
  | nil : RPs ρ [] []
  | cons (i : Nat) (v : V) (x : Value) (l : List (Nat × V)) (xs : List (Nat × Value)) (h : RV ρ v x) (hs : RPs ρ l xs) : RPs ρ ((i, v) :: l) ((i, x) :: xs)
theorem partsV_sound (R : RR ρ n rg a) : ∀ {l : List (Nat × Operand)} {ps : List (Nat × V)}, partsV rg l = some ps → RPs ρ ps (mapP (evA a) l)
  | [], ps, e => by cases e; exact .nil
  | p :: l, ps, e => by
    have e : (match opV rg p.2 with | some v => (match partsV rg l with | some vs => some ((p.1, v) :: vs) | none => none) | none => none) = some ps := e
    split at e
    · rename_i v hv
      split at e
      · rename_i vs hvs
        cases e
        exact .cons _ _ _ _ _ (opV_sound R hv) (partsV_sound R hvs)
      · cases e
    · cases e
theorem fold_spl (off : Nat) : ∀ (l : List Value) (k : Nat) (c : Array Value), off + k + l.length ≤ c.size →
    (l.zipIdx k).foldl (fun (cs : Array Value) (p : Value × Nat) => cs.setIfInBounds (off + p.2) p.1) c = (spl c.toList (off + k) l).toArray
  | [], k, c, _ => by simp [spl]
  | x :: l, k, c, hle => by
    simp only [List.length_cons] at hle
    simp only [List.zipIdx_cons, List.foldl_cons]
    rw [fold_spl off l (k + 1) _ (by simp; omega)]
    congr 1
    unfold spl
    simp only [Array.toList_setIfInBounds, List.length_cons]
    have e1 : (c.toList.set (off + k) x).take (off + (k + 1)) = c.toList.take (off + k) ++ [x] := by
      rw [show off + (k + 1) = off + k + 1 by omega, List.take_add_one, List.take_set_of_le (Nat.le_refl _)]
      have : off + k < c.toList.length := by simp; omega
      rw [List.getElem?_set_self this]; rfl
    rw [e1, List.drop_set_of_lt (by omega)]
    simp [Nat.add_assoc, Nat.add_comm 1]
theorem RVs.spl {l m : List V} {xs ys : List Value} (hl : RVs ρ l xs) (hm : RVs ρ m ys) (o : Nat) : RVs ρ (l.take o ++ m ++ l.drop (o + m.length)) (CM.spl xs o ys) := by
  unfold CM.spl
  rw [← hm.len]
  exact ((hl.take o).app hm).app (hl.drop _)
theorem fill_sound {pl : List (Nat × Nat)} {place : Nat → Option (Nat × Nat)} {N : Nat} (hp : ∀ (i : Nat) (p : Nat × Nat), pl[i]? = some p → place i = some p ∧ p.1 + p.2 ≤ N) :
    ∀ {ps : List (Nat × V)} {qs : List (Nat × Value)} {cs cs' : List V} {xs : List Value}, RPs ρ ps qs → RVs ρ cs xs → cs.length = N → xs.all scalarV = true → fillV pl cs ps = some cs' →
      ∃ xs', Instr.fill place xs.toArray qs = some xs'.toArray ∧ RVs ρ cs' xs' ∧ xs'.all scalarV = true ∧ cs'.length = N
  | [], qs, cs, cs', xs, hps, hcs, hN, hs, e => by cases hps; cases e; exact ⟨xs, rfl, hcs, hs, hN⟩
  | (i, v) :: ps, qs, cs, cs', xs, hps, hcs, hN, hs, e => by
    cases hps with
    | cons _ _ x _ qs hx hps =>
      have e : (match nth? pl i with
        | none => none
        | some (o, s) => match Nat.beq (lenL (celV v)) s && noTup v with
          | true => fillV pl (splL cs o (celV v)) ps
          | false => none) = some cs' := e
      split at e
      · cases e
      · rename_i off s hnth
        rw [nth?_eq] at hnth
        obtain ⟨h1, h2⟩ := hp _ _ hnth
        split at e
        · rename_i hc
          simp only [Bool.and_eq_true] at hc
          have hlen := Nat.eq_of_beq_eq_true hc.1
          rw [lenL_eq] at hlen
          obtain ⟨hvc, hvs⟩ := hx.cells' hc.2
          rw [splL_eq] at e
          have hcl : (cells x).length = s := by rw [← hvc.len, hlen]
          have hxN : xs.length = N := by rw [← hcs.len, hN]
          have ih := fill_sound (cs' := cs') hp hps (hcs.spl hvc off) (by simp; omega) (spl_all hs hvs) e
          obtain ⟨xs', h3, h4, h5, h6⟩ := ih
          refine ⟨xs', ?_, h4, h5, h6⟩
          simp only [Instr.fill, h1]
          have hcs2 : x.cells.size = s := by rw [← hcl]; simp [CM.cells]
          rw [if_neg (by simp; constructor <;> omega)]
          have e4 : (x.cells.zipIdx.foldl (fun cs (c, j) => cs.setIfInBounds (off + j) c) xs.toArray) = (CM.spl xs off (cells x)).toArray := by
            have := fold_spl off x.cells.toList 0 xs.toArray (by simp; omega)
            simp only [Nat.add_zero] at this
            rw [← Array.foldl_toList, Array.toList_zipIdx]
            exact this
          rw [e4]
          exact h3
        · cases e
theorem pev_mapM {α β : Type} (f : α → Sem β) (g : α → Option β) (hf : ∀ x, pev P (f x) = g x) : ∀ l : List α, pev P (l.mapM f) = l.mapM g
  | [] => rfl
  | x :: l => by
    simp only [List.mapM_cons, pev_bind, hf, pev_mapM f g hf l]
    rfl
theorem pev_zeroValue {T : TypeId} {v : V} (hz : zeroV P T = some v) : ∃ z, pev P (zeroValue T) = some z ∧ (∀ ρ, RV ρ v z) ∧ noTup v = true := by
  obtain ⟨z, h1, h2, _, h4⟩ := zeroV_zc hz
  refine ⟨z, ?_, h1, h2⟩
  simp only [zeroValue, pev_bind, pev_typeInfo]
  cases hi : P.info? T with
  | none => rw [hi] at h4; cases h4
  | some i => rw [hi] at h4; simp only [Option.bind_some] at h4 ⊢; rw [h4]; rfl
theorem allLe_spec {m : Nat} : ∀ {l : List (Nat × Nat)}, allLe m l = true → ∀ p ∈ l, p.1 + p.2 ≤ m
  | [], _, p, hp => by simp at hp
  | q :: l, h, p, hp => by
    simp only [allLe, Bool.and_eq_true] at h
    rcases List.mem_cons.1 hp with rfl | hp
    · exact Nat.le_of_ble_eq_true h.1
    · exact allLe_spec h.2 p hp
theorem bld_sound {T : TypeId} {ps : List (Nat × V)} {qs : List (Nat × Value)} (hps : RPs ρ ps qs) (e : bldK (bldT P T) ps h = some (v, h')) : Pu P (bld T qs.toArray) (RV ρ v) ∧ h' = h := by
  cases hb : bldT P T with
  | none => rw [hb] at e; cases e
  | some s =>
    obtain ⟨z, pl⟩ := s
    rw [hb] at e
    have e : (match fillV pl z ps with | some cs => some (V.agg cs, h) | none => none) = some (v, h') := e
    unfold bldT at hb
    split at hb
    · rename_i z' pl' hz hpl
      split at hb
      · rename_i hle
        cases hb
        split at e
        · rename_i cs hcs
          obtain ⟨rfl, rfl⟩ := some_pair e
          refine ⟨?_, rfl⟩
          obtain ⟨zv, h1, h2, _⟩ := pev_zeroValue hz
          have hle := allLe_spec hle
          rw [lenL_eq] at hle
          generalize hzz : (zv : Value) = zv' at *
          have h2 := h2 ρ
          cases h2 with
          | agg _ zs hzs hss =>
            unfold places at hpl
            split at hpl
            · rename_i fs hu
              have hplaces : pev P (fs.mapM fun f => do pure (f.offset, ← sizeOf f.type)) = some pl.toArray := by
                have e1 : (fs.mapM fun f => do pure (f.offset, ← sizeOf f.type) : Sem (Array (Nat × Nat))) = (do let l ← fs.toList.mapM (fun f => (do pure (f.offset, ← sizeOf f.type) : Sem (Nat × Nat))); pure l.toArray) := by
                  rw [Array.mapM_eq_mapM_toList]; rfl
                rw [e1, pev_bind, pev_mapM _ (fun f => (szT P f.type).map fun s => (f.offset, s)) (fun f => by simp only [pev_bind, pev_sizeOf, pev_pure]; unfold szT; cases P.info? f.type <;> rfl), hpl]
                rfl
              obtain ⟨xs', g1, g2, g3, _⟩ := fill_sound (place := (pl.toArray[·]?)) (N := z.length) (fun i p hp => ⟨by simpa using hp, hle p (List.mem_of_getElem? hp)⟩) hps hzs rfl hss hcs
              refine (Pu_of (pev_val (v := .agg xs'.toArray) ?_)).mpr (.agg _ _ g2 g3)
              simp only [Instr.build, pev_bind, h1, Option.bind_some, pev_underlying, hu, hplaces, Value.cells]
              rw [g1]; rfl
            · rename_i m el hu
              cases hsz : szT P el with
              | none => rw [hsz] at hpl; cases hpl
              | some s =>
                rw [hsz] at hpl
                simp only [Option.map_some, Option.some.injEq] at hpl
                subst hpl
                obtain ⟨xs', g1, g2, g3, _⟩ := fill_sound (place := fun i => some (i * s, s)) (N := z.length) (fun i p hp => by
                  have hp2 := hle p (List.mem_of_getElem? hp)
                  obtain ⟨hi, hp⟩ := List.getElem?_eq_some_iff.1 hp
                  simp at hp
                  subst hp
                  exact ⟨rfl, hp2⟩) hps hzs rfl hss hcs
                refine (Pu_of (pev_val (v := .agg xs'.toArray) ?_)).mpr (.agg _ _ g2 g3)
                simp only [Instr.build, pev_bind, h1, Option.bind_some, pev_underlying, hu, sizeOf_szT hsz, Value.cells]
                rw [g1]; rfl
            · cases hpl
        · cases e
      · cases hb
    · cases hb
theorem ex_bld (H : RH B w0 ρ h w) (R : RR ρ n rg a) {T : TypeId} {ps : Array (Nat × Operand)} (hop : o.op = .build T ps) (he : exR P call rg o h = some (v, h')) : vcOp P o a w (PV B w0 ρ v h') := by
  refine vc_pure (by rw [hop]; rfl) (by simp [hop]) (by simp [hop]) (by simp [hop]) ?_
  have e : semR (evA a) o = bld T ⟨mapP (evA a) ps.toList⟩ := by simp only [semR, hop]; rfl
  rw [e]
  simp only [exR, exO, hop] at he
  have he : withP (partsV rg ps.toList) (fun ps => bldK (bldT P T) ps h) = some (v, h') := he
  cases hp : partsV rg ps.toList with
  | none => rw [hp] at he; cases he
  | some qs =>
    rw [hp] at he
    obtain ⟨h1, rfl⟩ := bld_sound (partsV_sound R hp) he
    exact h1.pv H
end
end Go.Proofs.YthdaccndnfgeeaaGreatDoor.CM
