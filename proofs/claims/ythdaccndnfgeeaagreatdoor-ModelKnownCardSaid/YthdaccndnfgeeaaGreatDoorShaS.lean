/- What stands for a call of the pass. -/
import Derived.Test.YthdaccndnfgeeaaGreatDoorShaP
namespace Go.Proofs.YthdaccndnfgeeaaGreatDoor.CM
open Go
abbrev Ent := List V → Hp → Option Res
/-- What stands for a call of f leaves all as it was, and is right. -/
def EntOk (f : FuncId) (E : Ent) : Prop := ∀ args h v h', E args h = some (some (v, h')) → h' = h ∧ ∀ {B : Nat} {w0 : World} {ρ : Vl} {w : World} {xs : List Value}, GOk GL ρ → RH B w0 ρ h w → RVs ρ args xs → Fc Tryz.prog f xs.toArray w (PV B w0 ρ v h)
/-- A table of them. -/
noncomputable def tabS (t : List (Nat × Ent)) (f : FuncId) (args : List V) (h : Hp) : Option Res := List.rec none (fun e _ ih => match Nat.beq f e.1 with
  | true => e.2 args h
  | false => ih) t
def TabOk (t : List (Nat × Ent)) : Prop := ∀ e ∈ t, EntOk e.1 e.2
theorem tab_mem : ∀ {t : List (Nat × Ent)} {f : FuncId} {args : List V} {h : Hp} {r : Res}, tabS t f args h = some r → ∃ e ∈ t, f = e.1 ∧ e.2 args h = some r
  | e :: t, f, args, h, r, he => by
    have he : (match Nat.beq f e.1 with | true => e.2 args h | false => tabS t f args h) = some r := he
    split at he
    · rename_i hf; exact ⟨e, List.mem_cons_self .., eqN hf, he⟩
    · obtain ⟨e', h1, h2⟩ := tab_mem he; exact ⟨e', List.mem_cons_of_mem _ h1, h2⟩
theorem TabOk.sum {t : List (Nat × Ent)} (ht : TabOk t) (B : Nat) (w0 : World) : SumOk Tryz.prog GL B w0 (tabS t) := by
  refine ⟨fun f args h v h1 e => ?_, fun f args h v h' e ρ w xs hG H hx => ?_⟩
  · obtain ⟨x, hx, rfl, he⟩ := tab_mem e
    rw [(ht x hx _ _ _ _ he).1]; exact .refl _
  · obtain ⟨x, hm, rfl, he⟩ := tab_mem e
    obtain ⟨rfl, h2⟩ := ht x hm _ _ _ _ he
    exact h2 hG H hx
theorem gl_fl : ∀ n l, GL n = some l → ∀ v ∈ l, Fl v := fun n l hn v hv => by
  unfold GL at hn
  split at hn
  · cases hn
    obtain ⟨z, _, rfl⟩ := List.mem_map.1 hv
    exact .int _ _
  · cases hn
theorem mo : Tryz.prog.follows .mixedOrders = true := by kernel_rfl
/-- By a run from nothing. -/
theorem ent_run {t : List (Nat × Ent)} (ht : TabOk t) {f : FuncId} {n : Nat} {args : List V} {v : V} (hrun : (runF Tryz.prog GL (tabS t) n f args h0).map Prod.fst = some v) (hv : Fl v) {B : Nat} {w0 : World} {ρ : Vl} {h : Hp} {w : World} {xs : List Value}
    (hG : GOk GL ρ) (H : RH B w0 ρ h w) (hx : RVs (worldN w) args xs) : Fc Tryz.prog f xs.toArray w (PV B w0 ρ v h) := by
  obtain ⟨h1, run⟩ := map_fst hrun
  exact call_pure mo gl_fl (fun B w0 => ht.sum B w0) run hv hG H hx
noncomputable def passE (F : FK) : Ent := fun args h =>
  match args with
  | [.agg was, b] => match natsK .u32 was, bytesAt h b with
    | some w, some f => (match Nat.beq (lenL w) 8 && Nat.beq (lenL f) 64 with
      | true => some (some (.agg (intsV .u32 (passG F w f)), h))
      | false => none)
    | _, _ => none
  | _ => none
theorem passE_ok : EntOk 440 (passE asIs) := by
  intro args h v h' e
  unfold passE at e
  split at e
  · rename_i was b
    split at e
    · rename_i ws fs hw hf
      split at e
      · rename_i hl
        rw [Bool.and_eq_true] at hl
        have h1 : ws.length = 8 := by have := eqN hl.1; rwa [lenL_eq] at this
        have h2 : fs.length = 64 := by have := eqN hl.2; rwa [lenL_eq] at this
        cases e
        refine ⟨rfl, fun {B w0 ρ w xs} hG H hx => ?_⟩
        have hwas := natsK_spec hw
        subst hwas
        cases hx with
        | cons _ X _ _ hX hs =>
          cases hs with
          | cons _ Y _ _ hY hs =>
            cases hs
            obtain ⟨r, o, c, hb⟩ := bytesAt_view H hf hY
            have run := pass_run (fun i => ws.getD i 0) (fun i => fs.getD i 0) r o c
            rw [← range_getD h1, ← range_getD h2] at run
            exact ent_run (t := []) (fun e he => (by simp at he)) run (.agg intsV_fl) hG H (.cons _ _ _ _ (Fl.agg intsV_fl _ _ _ hX) (.cons _ _ _ _ hb .nil))
      · cases e
    · cases e
  · cases e
/-- Every number at once. -/
noncomputable def frcF : FK := fun n k => frc n k
theorem frcF_ok : frcF = asIs := frc_asIs
noncomputable def tab1 (F : FK) : List (Nat × Ent) := [(440, passE F)]
theorem tab1_ok {F : FK} (hF : F = asIs) : TabOk (tab1 F) := by
  subst hF
  intro e he
  rcases List.mem_cons.1 he with rfl | he
  · exact passE_ok
  · simp at he
end Go.Proofs.YthdaccndnfgeeaaGreatDoor.CM
