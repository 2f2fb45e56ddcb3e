/- A run from nothing, with arguments by value, stands for every call with such arguments. No program in sight. -/
import Derived.Test.YthdaccndnfgeeaaGreatDoorRowS
namespace Go.Proofs.YthdaccndnfgeeaaGreatDoor.CM
open Go
section
variable {P : Program} {G : Nat → Option (List V)} {S : FuncId → List V → Hp → Option Res} {B : Nat} {w0 w : World} {ρ : Vl} {h : Hp}
/-- A value without names. -/
def Fl (v : V) : Prop := ∀ ρ ρ' x, RV ρ v x → RV ρ' v x
theorem Fl.int (k : IntKind) (n : Int) : Fl (.int k n) := fun ρ ρ' x h => by cases h; exact .int _ _
theorem Fl.bool (b : Bool) : Fl (.bool b) := fun ρ ρ' x h => by cases h; exact .bool _
theorem Fl.str (s : List Nat) : Fl (.str s) := fun ρ ρ' x h => by cases h with | str _ hs => exact .str _ hs
theorem Fl.nils : Fl .nils := fun ρ ρ' x h => by cases h; exact .nils
theorem Fl.nilp : Fl .nilp := fun ρ ρ' x h => by cases h; exact .nilp
theorem Fl.all {l : List V} (hl : ∀ v ∈ l, Fl v) {ρ ρ' : Vl} {xs : List Value} (h : RVs ρ l xs) : RVs ρ' l xs := by
  induction l generalizing xs with
  | nil => cases h; exact .nil
  | cons v l ih => cases h with | cons _ x _ xs h hs => exact .cons _ _ _ _ (hl v (List.mem_cons_self ..) _ _ _ h) (ih (fun u hu => hl u (List.mem_cons_of_mem _ hu)) hs)
theorem Fl.agg {l : List V} (hl : ∀ v ∈ l, Fl v) : Fl (.agg l) := fun ρ ρ' x h => by cases h with | agg _ xs h hs => exact .agg _ _ (Fl.all hl h) hs
theorem Fl.tup {l : List V} (hl : ∀ v ∈ l, Fl v) : Fl (.tup l) := fun ρ ρ' x h => by cases h with | tup _ xs h => exact .tup _ _ (Fl.all hl h)
theorem gok_world (hGf : ∀ n l, G n = some l → ∀ v ∈ l, Fl v) (hG : GOk G ρ) (H : RH B w0 ρ h w) : GOk G (worldN w) := fun n l hn => by
  have h1 := hG n l hn
  have h2 := hGf n l hn
  generalize hp : (Value.pointer (some ⟨n, 0, none⟩)) = p at h1
  cases h1 with
  | rp _ _ _ xs hx hs hW =>
    refine .rp n 0 l xs (Fl.all h2 hx) hs (hW.imp id fun ⟨c0, T, fr, h3, h4⟩ => ⟨c0, T, fr, ?_, h4⟩)
    obtain ⟨h5, h6⟩ := H.ro _ _ h3
    show (if n < sz w then bk w n else none) = _
    rw [if_pos (by have := H.size; omega), H.old _ h5, h6]
theorem RH.later {w' : World} {ρ' : Vl} {h' : Hp} (H : RH B w0 ρ h w) (H' : RH (sz w) w ρ' h' w') : RH B w0 ρ h w' := by
  have hsz := H'.size
  have hold := H'.old
  refine ⟨fun b k hb => ?_, H.inj, H.fresh, fun b r g hb => ?_, fun b hb => ?_, Nat.le_trans H.size hsz, H.ro, H'.io.trans H.io, fun r o hr => ?_⟩
  · obtain ⟨r, g, h1, h2⟩ := H.blk b k hb
    refine ⟨r, g, h1, ?_⟩
    rw [hold _ (H.low _ _ _ h1).2]; exact h2
  · have := H.low _ _ _ hb; omega
  · rw [hold _ (by have := H.size; omega)]; exact H.old _ hb
  · obtain ⟨h1, h2, h3, h4⟩ := H.kp r o hr
    exact ⟨h1, by omega, by rw [hold _ h2]; exact h3, h4⟩
/-- The rule. -/
theorem call_pure (hm : P.follows .mixedOrders = true) (hGf : ∀ n l, G n = some l → ∀ v ∈ l, Fl v) (hS : ∀ B w0, SumOk P G B w0 S) {f : FuncId} {n : Nat} {args : List V} {v : V} {h1 : Hp} (hrun : runF P G S n f args h0 = some (v, h1)) (hv : Fl v)
    (hG : GOk G ρ) (H : RH B w0 ρ h w) {xs : List Value} (hx : RVs (worldN w) args xs) : Fc P f xs.toArray w (PV B w0 ρ v h) := by
  refine (run_sound hm (hS (sz w) w) n f args h0 v h1 hrun (worldN w) w xs (gok_world hGf hG H) (start_rh w) hx).mono ?_
  rintro x w' ⟨ρ', _, H', hx'⟩
  exact ⟨ρ, .refl _, H.later H', hv _ _ _ hx'⟩
/-- A slice that there is. -/
noncomputable def slOk (v : V) : Bool := match v with
  | .sl _ _ n c => Nat.ble n c
  | .sg .. => true
  | .ro .. => true
  | _ => false
theorem view_sl (H : RH B w0 ρ h w) {b : V} {z : Nat} {es : List V} {X : Value} (hb : slOk b = true) (he : elems h b z = some es) (hf : ∀ e ∈ cats es, Fl e) (hX : RV ρ b X) : ∃ r o c, RV (worldN w) (.ro r o c es z) X := by
  have W : ∀ {r : Nat} {o : Obj}, bk w r = some o → (worldN w).W r = some o := fun {r o} hr => by
    show (if r < sz w then bk w r else none) = _
    rw [if_pos (bk_lt hr), hr]
  cases b with
  | sl b o n c =>
    cases hX with
    | sl _ _ _ _ r g hρ =>
      have he : elsH h b z o n = some es := he
      obtain ⟨c0, E, fr, h1, h2, h3, h4, h5, h6⟩ := elsH_sound H hρ he
      subst h5
      refine ⟨r, o, c, .ro r o c es z _ (Fl.all hf h3) h4 (all_take (all_drop h6 _) _) (Nat.le_of_ble_eq_true hb) (.inr ⟨c0.toArray, E, fr, W h1, ?_⟩)⟩
      simp [List.take_take]
  | sg b o n k =>
    cases hX with
    | sg _ _ _ _ r g o' hρ ho hk =>
      have he : elsH h b z o n = some es := he
      obtain ⟨c0, E, fr, h1, h2, h3, h4, h5, h6⟩ := elsH_sound H hρ he
      subst h5
      by_cases hn : es.length = 0
      · have : es = [] := List.eq_nil_of_length_eq_zero hn
        subst this
        exact ⟨r, o', g - k, .ro r o' (g - k) [] z [] .nil (by simp) rfl (by simp) (.inl rfl)⟩
      · have ho : o' = o := ho.resolve_right (by omega)
        subst ho
        refine ⟨r, o', g - k, .ro r o' (g - k) es z _ (Fl.all hf h3) h4 (all_take (all_drop h6 _) _) (by omega) (.inr ⟨c0.toArray, E, fr, W h1, ?_⟩)⟩
        simp [List.take_take]
  | ro r o c es' z' =>
    have he1 : (match Nat.beq z z' with | true => some es' | false => none) = some es := he
    split at he1
    · rename_i hz
      have := eqN hz
      subst this
      cases he1
      cases hX with
      | ro _ _ _ _ _ xs hxs hz hs hc hW =>
        refine ⟨r, o, c, .ro r o c es z xs (Fl.all hf hxs) hz hs hc (hW.imp id fun ⟨c0, T, fr, h3, h4⟩ => ⟨c0, T, fr, W ?_, h4⟩)⟩
        obtain ⟨h5, h6⟩ := H.ro _ _ h3
        rw [H.old _ h5, h6]
    · cases he1
  | _ => cases hb
/-- Numbers of one kind. -/
noncomputable def natK1 (k : IntKind) (v : V) : Option Nat := match v with
  | .int k' (.ofNat n) => (match kbeq k k' with | true => some n | false => none)
  | _ => none
noncomputable def natsK (k : IntKind) (l : List V) : Option (List Nat) := List.rec (some []) (fun v _ ih => match natK1 k v, ih with
  | some n, some r => some (n :: r)
  | _, _ => none) l
noncomputable def intsV (k : IntKind) (l : List Nat) : List V := mapL (fun n => .int k (.ofNat n)) l
theorem natsK_spec {k : IntKind} : ∀ {l : List V} {ns : List Nat}, natsK k l = some ns → l = intsV k ns
  | [], ns, h => by cases h; rfl
  | v :: l, ns, h => by
    have h0 : (match natK1 k v, natsK k l with
      | some n, some r => some (n :: r)
      | _, _ => none) = some ns := h
    split at h0
    · rename_i n r hv hr
      cases h0
      rw [natsK_spec hr]
      unfold natK1 at hv
      split at hv
      · split at hv
        · rename_i hk
          cases hv
          rw [kbeq_eq hk]; rfl
        · cases hv
      · cases hv
    · cases h0
theorem intsV_fl {k : IntKind} {l : List Nat} : ∀ v ∈ intsV k l, Fl v := fun v hv => by
  unfold intsV at hv; rw [mapL_eq] at hv
  obtain ⟨n, _, rfl⟩ := List.mem_map.1 hv
  exact .int _ _
theorem intsV_cats (k : IntKind) (l : List Nat) : cats (intsV k l) = intsV k l := by
  unfold intsV
  rw [mapL_eq]
  induction l with
  | nil => rfl
  | cons b s ih => rw [List.map_cons, cats_cons, ih]; rfl
/-- The bytes of a slice that there is. -/
noncomputable def bytesAt (h : Hp) (b : V) : Option (List Nat) := match slOk b with
  | true => match elems h b 1 with
    | some es => natsK .u8 es
    | none => none
  | false => none
theorem bytesAt_view (H : RH B w0 ρ h w) {b : V} {ns : List Nat} {X : Value} (e : bytesAt h b = some ns) (hX : RV ρ b X) : ∃ r o c, RV (worldN w) (.ro r o c (intsV .u8 ns) 1) X := by
  unfold bytesAt at e
  split at e
  · rename_i hb
    split at e
    · rename_i es he
      have := natsK_spec e
      subst this
      exact view_sl H hb he (by rw [intsV_cats]; exact intsV_fl) hX
    · cases e
  · cases e
theorem range_getD {l : List Nat} {n : Nat} (h : l.length = n) : l = (List.range n).map fun i => l.getD i 0 := by
  apply List.ext_getElem
  · simp [h]
  · intro i h1 h2
    simp only [List.getElem_map, List.getElem_range]
    rw [List.getD_eq_getElem?_getD, List.getElem?_eq_getElem h1]; rfl
theorem map_fst {r : Res} {v : V} (h : r.map Prod.fst = some v) : ∃ h1, r = some (v, h1) := by
  cases r with
  | none => cases h
  | some p => obtain ⟨a, b⟩ := p; cases h; exact ⟨b, rfl⟩
end
end Go.Proofs.YthdaccndnfgeeaaGreatDoor.CM
