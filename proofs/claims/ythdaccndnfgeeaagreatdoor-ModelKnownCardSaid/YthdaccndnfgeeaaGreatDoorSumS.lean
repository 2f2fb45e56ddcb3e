/- What stands for SHA-256 of bytes and for a key's block. -/
import Derived.Test.YthdaccndnfgeeaaGreatDoorPadP
import Derived.Test.YthdaccndnfgeeaaGreatDoorSumP
namespace Go.Proofs.YthdaccndnfgeeaaGreatDoor.CM
open Go
noncomputable def memN (l : List Nat) (n : Nat) : Bool := List.rec false (fun x _ ih => match Nat.beq x n with | true => true | false => ih) l
theorem memN_mem : ∀ {l : List Nat} {n : Nat}, memN l n = true → n ∈ l
  | x :: l, n, h => by
    have h : (match Nat.beq x n with | true => true | false => memN l n) = true := h
    split at h
    · rename_i hx; rw [eqN hx]; exact List.mem_cons_self ..
    · exact List.mem_cons_of_mem _ (memN_mem h)
noncomputable def sumE (F : FK) : Ent := fun args h =>
  match args with
  | [b] => match bytesAt h b with
    | some f => (match memN sumLens (lenL f) with
      | true => some (some (.agg (intsV .u8 (sumG F f)), h))
      | false => none)
    | _ => none
  | _ => none
theorem sumE_ok : EntOk 390 (sumE asIs) := by
  intro args h v h' e
  unfold sumE at e
  split at e
  · rename_i b
    split at e
    · rename_i fs hf
      split at e
      · rename_i hl
        cases e
        refine ⟨rfl, fun {B w0 ρ w xs} hG H hx => ?_⟩
        cases hx with
        | cons _ Y _ _ hY hs =>
          cases hs
          obtain ⟨r, o, c, hb⟩ := bytesAt_view H hf hY
          have run := sum_runs _ (memN_mem hl) (fun i => fs.getD i 0) r o c
          rw [← range_getD (by rw [lenL_eq])] at run
          exact ent_run (tab1_ok rfl) run (.agg intsV_fl) hG H (.cons _ _ _ _ hb .nil)
      · cases e
    · cases e
  · cases e
noncomputable def padE (F : FK) : Ent := fun args h =>
  match args with
  | [b, .int .u8 (.ofNat w)] => match bytesAt h b with
    | some f => (match memN padLens (lenL f) with
      | true => some (some (.agg (intsV .u8 (padG F f w)), h))
      | false => none)
    | _ => none
  | _ => none
theorem padE_ok : EntOk 389 (padE asIs) := by
  intro args h v h' e
  unfold padE at e
  split at e
  · rename_i b wv
    split at e
    · rename_i fs hf
      split at e
      · rename_i hl
        cases e
        refine ⟨rfl, fun {B w0 ρ w xs} hG H hx => ?_⟩
        cases hx with
        | cons _ Y _ _ hY hs =>
          cases hs with
          | cons _ Z _ _ hZ hs =>
            cases hs
            obtain ⟨r, o, c, hb⟩ := bytesAt_view H hf hY
            have run := pad_runs _ (memN_mem hl) (fun i => fs.getD i 0) wv r o c
            rw [← range_getD (by rw [lenL_eq])] at run
            exact ent_run (tab1_ok rfl) run (.agg intsV_fl) hG H (.cons _ _ _ _ hb (.cons _ _ _ _ (Fl.int _ _ _ _ _ hZ) .nil))
      · cases e
    · cases e
  · cases e
noncomputable def tab2 (F : FK) : List (Nat × Ent) := (390, sumE F) :: (389, padE F) :: tab1 F
theorem tab2_ok {F : FK} (hF : F = asIs) : TabOk (tab2 F) := by
  subst hF
  intro e he
  rcases List.mem_cons.1 he with rfl | he
  · exact sumE_ok
  · rcases List.mem_cons.1 he with rfl | he
    · exact padE_ok
    · exact tab1_ok rfl e he
end Go.Proofs.YthdaccndnfgeeaaGreatDoor.CM
