/- From the evaluator to the row: a closed law; what a row's listed table reads as. No program in sight. -/
import Derived.Test.YthdaccndnfgeeaaGreatDoorRunS
import Derived.Below
import Derived.ChangeSame
namespace Go.Proofs.YthdaccndnfgeeaaGreatDoor.CM
open Go Go.RowKit Go.WideShapes Go.ChangeShapes
section
variable {H : Type} {enc : TypeId × Value → H} {P : Program}
theorem post_of_below {f : Func} {s : ChangeSpec} {apart fresh handsOn again : Bool} {W W' : World} {args : Array Value} {v : Value} {ds gs : List (DataW H)} {before pa pv : List MemPlace}
    (hW : DataW.Whole enc P f.params.toList s.vars apart W args.toList ds gs before)
    (hres : ∀ (b : Nat) (sp : Nat → Bool) (hd : Bool), DataW.TrodAll enc P W' b sp hd f.resultTypes.toList (v.resultList f.resultTypes.size) (s.fn H (ds ++ gs)).results [])
    (hargs : ∀ sp : Nat → Bool, (∀ p ∈ before, sp p.block = true) → DataW.TrodAll enc P W' 0 sp true f.params.toList args.toList (s.fn H (ds ++ gs)).args pa)
    (hvars : ∀ sp : Nat → Bool, (∀ p ∈ before, sp p.block = true) → DataW.TrodVars enc P W' sp s.vars (s.fn H (ds ++ gs)).vars pv)
    (hps : before = pa ++ pv) (hb : Below W.heap.size W W')
    (hok : ∀ (j : Nat) (t : TypeId) (r : Value), f.resultTypes[j]? = some t → (v.resultList f.resultTypes.size)[j]? = some r → Value.okWide P W' .any 0 t r) :
    s.post enc P f apart fresh handsOn again W args v W' := by
  have hlt : ∀ p ∈ before, p.block < W.heap.size := fun p hp => hW.lt p hp
  have hold : ∀ p ∈ before, (fun b => decide (b < W.heap.size)) p.block = true := fun p hp => by simpa using hlt p hp
  refine ⟨ds, gs, before, [], pa, pv, hW, hres _ _ _, hargs _ hold, hvars _ hold, World.keptBut_mono (fun p hp => ⟨hp, ?_⟩) (hb.frame (· ∈ before)), fun _ => ?_⟩
  · rw [hps, List.mem_append] at hp
    exact Or.inr hp
  · obtain ⟨_, _, _, _, _, hz, hn⟩ := hW
    refine ⟨hok, _, _, ([] ++ pa) ++ pv, ⟨[] ++ pa, pv, trodAll_append (hargs _ (fun _ _ => rfl)) (hres _ _ _), hvars _ (fun _ _ => rfl), rfl, ?_, ?_⟩, ?_⟩
    · intro b off hp
      have hin : MemPlace.cell b off ∈ before := by rw [hps]; simpa using hp
      rw [hb.frozen (hlt _ hin)]
      exact hz b off hin
    · intro ha
      have := hn ha
      rw [hps] at this
      simpa using this
    · intro p hp _
      rw [hps]
      simpa using hp
end
section
variable {P : Program} {G : Nat → Option (List V)} {S : FuncId → List V → Hp → Option Res}
/-- What stands in memory when a call begins. -/
def worldN (W : World) : Vl := ⟨fun _ => none, fun r => if r < sz W then bk W r else none, fun _ => none⟩
theorem start_rh (W : World) : RH (sz W) W (worldN W) h0 W := by
  refine ⟨fun b k hb => ?_, fun a b r g g' ha => (by cases ha), fun b x hx => (by cases hx), fun b r g hb => (by cases hb), fun _ _ => rfl, Nat.le_refl _, fun r o hr => ?_, rfl, fun r o hr => (by cases hr)⟩
  · have : h0.blk b = none := Tr.get_e b
    rw [this] at hb; cases hb
  · change (if r < sz W then bk W r else none) = some o at hr
    split at hr
    · rename_i h; exact ⟨h, hr⟩
    · cases hr
/-- A table that a package's variable holds. -/
theorem global_rv {W : World} {g : Nat} {l : List V} {xs : List Value} {T : TypeId} {fr : Nat × Nat} (hr : bk W g = some (.cells xs.toArray T fr)) (hl : ∀ ρ, RVs ρ l xs) (hs : xs.all scalarV = true) : RV (worldN W) (.rp g 0 l) (.pointer (some ⟨g, 0, none⟩)) := by
  refine .rp g 0 l xs (hl _) hs (.inr ⟨xs.toArray, T, fr, ?_, by simp⟩)
  show (if g < sz W then bk W g else none) = _
  rw [if_pos (bk_lt hr), hr]
/-- A closed law that the evaluator runs to 'true'. -/
theorem law_true (hm : P.follows .mixedOrders = true) {W : World} (hG : GOk G (worldN W)) (hS : SumOk P G (sz W) W S) {f : FuncId} {n : Nat} {h' : Hp} (hrun : runF P G S n f [] h0 = some (.bool true, h')) :
    Calls P f #[] W fun e W' => e = .returned (.bool true) ∧ Below W.heap.size W W' := by
  have hF := run_sound hm hS n f [] h0 (.bool true) h' hrun (worldN W) W [] hG (start_rh W) .nil
  refine hF.out.2.mono ?_
  rintro e w' ⟨x, rfl, ρ', _, H, hx⟩
  have : x = .bool true := by cases hx; rfl
  subst this
  refine ⟨rfl, ?_⟩
  have hio := H.io
  simp only [outs, Prod.mk.injEq] at hio
  exact ⟨hio.1, hio.2.2, hio.2.1, H.size, fun k hk => H.old k hk⟩
end
end Go.Proofs.YthdaccndnfgeeaaGreatDoor.CM
