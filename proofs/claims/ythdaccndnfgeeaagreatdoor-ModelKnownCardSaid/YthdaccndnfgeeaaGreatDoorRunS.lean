/- Code and calls: the evaluator's run is a run of the model. No program in sight. -/
import Derived.Test.YthdaccndnfgeeaaGreatDoorRgT
namespace Go.Proofs.YthdaccndnfgeeaaGreatDoor.CM
open Go
section
variable {P : Program} {G : Nat → Option (List V)} {S : FuncId → List V → Hp → Option Res} {B : Nat} {w0 : World}
def exX : Ex → Exit
  | .nm => .normal
  | .ret => .ret
  | .exit id => .exit id
/-- The evaluator's run of code is sound. -/
def EvOk (P : Program) (G : Nat → Option (List V)) (B : Nat) (w0 : World) (self : Cd) : Prop :=
  ∀ (c : Code) (rg : Rg) (h : Hp) (e : Ex) (rg' : Rg) (h' : Hp), self c rg h = some (e, rg', h') → rg.g = G → ∀ n, codeOk c = true → dstsOk n c = true → ∀ {ρ : Vl} {a : Act} {w : World}, RH B w0 ρ h w → RR ρ n rg a →
    ∀ {Q : Exit → Act → World → Prop}, (∀ ρ' a' w', Ext ρ ρ' → RH B w0 ρ' h' w' → RR ρ' n rg' a' → rg'.g = G → Q (exX e) a' w') → vc none P c Q a w
theorem thenR_some {r : Rx} {k : Rg → Hp → Rx} {x : Ex × Rg × Hp} (e : thenR r k = some x) : (∃ rg h, r = some (.nm, rg, h) ∧ k rg h = some x) ∨ (∃ q rg h, r = some (q, rg, h) ∧ q ≠ .nm ∧ x = (q, rg, h)) := by
  unfold thenR at e
  split at e
  · rename_i q rg h
    cases q with
    | nm => exact .inl ⟨rg, h, rfl, e⟩
    | ret => cases e; exact .inr ⟨_, _, _, rfl, by simp, rfl⟩
    | exit id => cases e; exact .inr ⟨_, _, _, rfl, by simp, rfl⟩
  · cases e
theorem condK_some {v : V} {x y : Rx} {r : Ex × Rg × Hp} (e : condK v x y = some r) : (v = .bool true ∧ x = some r) ∨ (v = .bool false ∧ y = some r) := by
  cases v <;> first
    | (cases e; done)
    | (rename_i b; cases b
       · exact .inr ⟨rfl, e⟩
       · exact .inl ⟨rfl, e⟩)
theorem ev_step {call : Cl} {self : Cd} (hm : P.follows .mixedOrders = true) (hc : CallOk P G B w0 call) (hcm : MonoF call) (hs : EvOk P G B w0 self) : EvOk P G B w0 (fun c => evC P c call self) := by
  intro c rg h e rg' h' he hg n hok hd ρ a w H R Q hQ
  simp only at he
  unfold evC at he
  cases c with
  | skip => cases he; exact hQ ρ a w (.refl _) H R hg
  | label l => cases he; exact hQ ρ a w (.refl _) H R hg
  | exit id => cases he; exact hQ ρ a w (.refl _) H R hg
  | ret => cases he; exact hQ ρ a w (.refl _) H R hg
  | goto l => cases he
  | refuse s => cases he
  | rangeFunc g ps x y => cases he
  | scope c =>
    have he : self c rg h = some (e, rg', h') := he
    simp only [codeOk] at hok
    simp only [dstsOk] at hd
    refine hs c rg h e rg' h' he hg n hok hd H R fun ρ' a' w' e1 H' R' g' => ?_
    have := hQ ρ' a' w' e1 H' R' g'
    cases e <;> exact this
  | block id c =>
    have he : blkR id (self c rg h) = some (e, rg', h') := he
    simp only [codeOk] at hok
    simp only [dstsOk] at hd
    unfold blkR at he
    split at he
    · rename_i q rg1 h1 hx
      simp only [Option.some.injEq, Prod.mk.injEq] at he
      obtain ⟨rfl, rfl, rfl⟩ := he
      refine hs c rg h q rg1 h1 hx hg n hok hd H R fun ρ' a' w' e1 H' R' g' => ?_
      have := hQ ρ' a' w' e1 H' R' g'
      cases q with
      | nm => exact this
      | ret => exact this
      | exit j =>
        show if j = id then Q .normal a' w' else Q (.exit j) a' w'
        have h3 : Q (exX (match Nat.beq id j with | true => .nm | false => .exit j)) a' w' := this
        cases hb : Nat.beq id j with
        | true => have h4 := eqN hb; subst h4; rw [hb] at h3; rw [if_pos rfl]; exact h3
        | false => rw [hb] at h3; rw [if_neg (fun e => by subst e; rw [Nat.beq_refl] at hb; cases hb)]; exact h3
    · cases he
  | seq x y =>
    have he : thenR (self x rg h) (self y) = some (e, rg', h') := he
    simp only [codeOk, Bool.and_eq_true] at hok
    simp only [dstsOk, Bool.and_eq_true] at hd
    rcases thenR_some he with ⟨rg1, h1, hx, hy⟩ | ⟨q, rg1, h1, hx, hq, heq⟩
    · refine hs x rg h .nm rg1 h1 hx hg n hok.1 hd.1 H R fun ρ1 a1 w1 e1 H1 R1 g1 => ?_
      exact hs y rg1 h1 e rg' h' hy g1 n hok.2 hd.2 H1 R1 fun ρ2 a2 w2 e2 => hQ ρ2 a2 w2 (e1.trans e2)
    · cases heq
      refine hs x rg h e rg' h' hx hg n hok.1 hd.1 H R fun ρ1 a1 w1 e1 H1 R1 g1 => ?_
      have := hQ ρ1 a1 w1 e1 H1 R1 g1
      cases e with
      | nm => exact absurd rfl hq
      | ret => exact this
      | exit j => exact this
  | cond c x y =>
    have he : Option.rec none (fun v => condK v (self x rg h) (self y rg h)) (opV rg c) = some (e, rg', h') := he
    simp only [codeOk, Bool.and_eq_true] at hok
    simp only [dstsOk, Bool.and_eq_true] at hd
    cases hv : opV rg c with
    | none => rw [hv] at he; cases he
    | some v =>
      rw [hv] at he
      have hr := opV_sound R hv
      simp only [vc]
      rcases condK_some he with ⟨rfl, hx⟩ | ⟨rfl, hx⟩
      · refine ⟨.inl ⟨by generalize evA a c = z at hr; cases hr; rfl, hs x rg h e rg' h' hx hg n hok.1 hd.1 H R hQ⟩⟩
      · refine ⟨.inr ⟨by generalize evA a c = z at hr; cases hr; rfl, hs y rg h e rg' h' hx hg n hok.2 hd.2 H R hQ⟩⟩
  | loop c =>
    have he : thenR (self c rg h) (self (.loop c)) = some (e, rg', h') := he
    have hok' : codeOk c = true := hok
    have hd' : dstsOk n c = true := hd
    simp only [vc]
    refine Lp.unroll hm hok' ?_
    rcases thenR_some he with ⟨rg1, h1, hx, hy⟩ | ⟨q, rg1, h1, hx, hq, heq⟩
    · refine hs c rg h .nm rg1 h1 hx hg n hok' hd' H R fun ρ1 a1 w1 e1 H1 R1 g1 => ?_
      exact hs (.loop c) rg1 h1 e rg' h' hy g1 n hok hd H1 R1 fun ρ2 a2 w2 e2 => hQ ρ2 a2 w2 (e1.trans e2)
    · cases heq
      refine hs c rg h e rg' h' hx hg n hok' hd' H R fun ρ1 a1 w1 e1 H1 R1 g1 => ?_
      have := hQ ρ1 a1 w1 e1 H1 R1 g1
      cases e with
      | nm => exact absurd rfl hq
      | ret => exact this
      | exit j => exact this
  | region id ops draw =>
    simp only [dstsOk] at hd
    have hd' : ∀ o ∈ ops.toList, ∀ d, o.dst = some d → d < n := fun o ho d hod => by
      have := Array.all_eq_true'.1 hd o (by simpa using ho)
      rw [hod] at this
      simpa using this
    have nm : ∀ {r : Rs}, nmK r = some (e, rg', h') → r = some (rg', h') ∧ e = .nm := fun {r} hr => by
      unfold nmK at hr
      cases r with
      | none => cases hr
      | some p => obtain ⟨q1, q2⟩ := p; cases hr; exact ⟨rfl, rfl⟩
    simp only [vc]
    cases draw with
    | false =>
      have he : nmK (opsR P call ops.toList ops.toList rg h) = some (e, rg', h') := he
      obtain ⟨hr, rfl⟩ := nm he
      exact ops_sound hc ops ops.toList rg h _ hr hg hd' H R hQ
    | true =>
      have he : nmK (anyR P call ops.toList (emasks ops.toList) (Region.before ops).toList ops.size 0 none [] rg h) = some (e, rg', h') := he
      obtain ⟨hr, rfl⟩ := nm he
      exact any_sound hc hcm hok _ hd' ops.size 0 rg h _ hr hg (H.cong (fun b => bk_dr w b) (sz_dr w) rfl) R hQ
theorem res_sound {ρ : Vl} {n : Nat} {rg : Rg} {a : Act} {h : Hp} {w : World} (H : RH B w0 ρ h w) (R : RR ρ n rg a) {K : Value → World → Prop} : ∀ {l : List ResultVar} {vs : List V} {acc : List Value}, resR P rg h l = some vs →
    (∀ xs, RVs ρ vs xs → K (match acc ++ xs with | [v] => v | l => .tuple l.toArray) w) → resV P a.tmps w K l acc
  | [], vs, acc, e, hK => by
    cases e
    have := hK [] .nil
    rw [List.append_nil] at this
    exact this
  | r :: l, vs, acc, e, hK => by
    have e : (match res1 P rg h r, resR P rg h l with | some v, some vs => some (v :: vs) | _, _ => none) = some vs := e
    split at e
    · rename_i v vs' hv hvs
      cases e
      cases r with
      | tmp t =>
        simp only [resV]
        refine res_sound H R hvs fun xs hxs => ?_
        have := hK (nthV a.tmps.toList t :: xs) (.cons _ _ _ _ (opV_sound R (x := .tmp t) hv) hxs)
        rw [List.append_assoc]; exact this
      | cell q T =>
        have hv : (match opV rg (.tmp q), shp P T with
          | some (.ptr b o), some (ag, n) => rdB ag n h b o
          | _, _ => none) = some v := hv
        split at hv
        · rename_i b o ag k hq hsh
          have hr := opV_sound R hq
          simp only [resV]
          have hx : evA a (.tmp q) = nthV a.tmps.toList q := rfl
          rw [hx] at hr
          have hl := ld_sound H hsh hr hv
          have e1 : (do pure (.value (← loadVar T (← asAddr (nthV a.tmps.toList q)))) : Sem Next) = ld T (nthV a.tmps.toList q) := by
            generalize nthV a.tmps.toList q = y at hr
            cases hr
            rfl
          rw [e1]
          refine hl.mono fun y hy => res_sound H R hvs fun xs hxs => ?_
          have := hK (y :: xs) (.cons _ _ _ _ hy hxs)
          rw [List.append_assoc]; exact this
        · cases hv
    · cases e
theorem args_get : ∀ (l : List V) (k : Nat) (rg : Rg) (t : Nat), (argsR l k rg).get (bp t) = if k ≤ t ∧ t < k + l.length then l[t - k]? else rg.get (bp t)
  | [], k, rg, t => by
    show rg.get (bp t) = _
    rw [if_neg (by simp)]
  | v :: l, k, rg, t => by
    show (argsR l (k + 1) (rg.put (bp k) v)).get (bp t) = _
    rw [args_get l (k + 1)]
    simp only [List.length_cons]
    by_cases h1 : k + 1 ≤ t ∧ t < k + 1 + l.length
    · rw [if_pos h1, if_pos (by omega)]
      rw [show t - k = (t - (k + 1)) + 1 by omega, List.getElem?_cons_succ]
    · rw [if_neg h1]
      show (rg.t.put (bp k) v).get (bp t) = _
      rw [Tr.get_put]
      by_cases h2 : k = t
      · subst h2
        rw [if_pos rfl, if_pos (by omega)]
        simp
      · rw [if_neg (fun e => h2 (bp_inj e)), if_neg (by omega)]
        rfl
theorem args_g : ∀ (l : List V) (k : Nat) (rg : Rg), (argsR l k rg).g = rg.g
  | [], _, _ => rfl
  | _ :: l, k, rg => args_g l (k + 1) _
theorem args_rr {ρ : Vl} (hG : GOk G ρ) {l : List V} {xs : List Value} (h : RVs ρ l xs) (n : Nat) : RR ρ n (argsR l 0 ⟨.e, G⟩) ⟨xs.toArray ++ Array.replicate (n - xs.toArray.size) undef, []⟩ := by
  refine ⟨by rw [args_g]; exact hG, by simp; omega, rfl, fun t => ?_⟩
  rw [args_get]
  have hl := h.len
  have hnth : nthV (xs.toArray ++ Array.replicate (n - xs.toArray.size) undef).toList t = (xs[t]?).getD undef := by
    rw [nthV_eq]
    simp only [Array.toList_append, Array.toList_replicate, List.getD_eq_getElem?_getD, List.getElem?_append, List.size_toArray]
    split
    · rfl
    · rename_i hlt
      rw [List.getElem?_eq_none (by omega : xs.length ≤ t)]
      rw [List.getElem?_replicate]
      split <;> rfl
  show RV ρ _ (nthV (xs.toArray ++ Array.replicate (n - xs.toArray.size) undef).toList t)
  rw [hnth]
  by_cases ht : t < l.length
  · rw [if_pos (by omega), Nat.sub_zero]
    have hv : l[t]? = some l[t] := List.getElem?_eq_getElem ht
    obtain ⟨x, h1, h2⟩ := h.get hv
    rw [hv, h1]
    exact h2
  · rw [if_neg (by omega)]
    have : (⟨.e, G⟩ : Rg).get (bp t) = none := Tr.get_e _
    rw [this, List.getElem?_eq_none (by omega)]
    exact rv_undef
/-- What stands for a call is sound. -/
def SumOk (P : Program) (G : Nat → Option (List V)) (B : Nat) (w0 : World) (S : FuncId → List V → Hp → Option Res) : Prop :=
  SMono S ∧ ∀ f args h v h', S f args h = some (some (v, h')) → ∀ ρ w xs, GOk G ρ → RH B w0 ρ h w → RVs ρ args xs → Fc P f xs.toArray w (PV B w0 ρ v h')
theorem outV_some {l : List V} {h h' : Hp} {v : V} (e : outV (some l) h = some (v, h')) : h' = h ∧ ((∃ u, l = [u] ∧ v = u) ∨ ((∀ u, l ≠ [u]) ∧ v = .tup l)) := by
  unfold outV at e
  split at e
  · rename_i u hl; cases hl; cases e; exact ⟨rfl, .inl ⟨_, rfl, rfl⟩⟩
  · rename_i l' hl hn; cases hn; cases e; exact ⟨rfl, .inr ⟨fun u hu => hl u (by rw [hu]), rfl⟩⟩
  · rename_i hl; cases hl
theorem call_sound {self : Cd} (hm : P.follows .mixedOrders = true) (hS : SumOk P G B w0 S) (hs : EvOk P G B w0 self) : CallOk P G B w0 (callR P G S self) := by
  intro f args h v h' he ρ w xs hG H hx
  unfold callR at he
  cases hsm : S f args h with
  | some r =>
    rw [hsm] at he
    have he : r = some (v, h') := he
    subst he
    exact hS.2 f args h v h' hsm ρ w xs hG H hx
  | none =>
    rw [hsm] at he
    have he : bodyR P f (fun c l => retR P l (self c (argsR args 0 ⟨.e, G⟩) h)) = some (v, h') := he
    cases hf : P.funcs[f]? with
    | none => simp only [bodyR, hf] at he; cases he
    | some fn =>
      simp only [bodyR, hf] at he
      cases hfn : okFn fn with
      | false => rw [hfn] at he; cases he
      | true =>
        rw [hfn] at he
        simp only at he
        unfold okFn at hfn
        split at hfn
        · cases hfn
        · rename_i c hb
          simp only [Bool.and_eq_true, Bool.not_eq_true'] at hfn
          obtain ⟨⟨h1, h2⟩, h3⟩ := hfn
          have hbo : bodyOf fn = c := by unfold bodyOf; rw [hb]; rfl
          rw [hbo] at he
          refine fn_of_vc hm hf hb h3 h1 ?_
          unfold retR at he
          have go : ∀ (e : Ex) (rg' : Rg) (h1' : Hp), (e = .nm ∨ e = .ret) → self c (argsR args 0 ⟨.e, G⟩) h = some (e, rg', h1') → outV (resR P rg' h1' fn.results.toList) h1' = some (v, h') →
              vc none P c (retQ P fn.results.toList (PV B w0 ρ v h')) ⟨xs.toArray ++ Array.replicate (fn.ntmps - xs.toArray.size) undef, []⟩ w := fun e rg' h1' hee hself hout => by
            refine hs c _ h e rg' h1' hself (args_g ..) fn.ntmps h1 h2 H (args_rr hG hx _) fun ρ' a' w' e1 H' R' g' => ?_
            have key : (match a'.defers with | [] => resV P a'.tmps w' (PV B w0 ρ v h') fn.results.toList [] | _ :: _ => False) := by
              rw [R'.defers]
              simp only
              cases hr : resR P rg' h1' fn.results.toList with
              | none => rw [hr] at hout; cases hout
              | some vs =>
                rw [hr] at hout
                obtain ⟨rfl, hvs⟩ := outV_some hout
                refine res_sound H' R' hr fun ys hys => ?_
                rw [List.nil_append]
                refine ⟨ρ', e1, H', ?_⟩
                rcases hvs with ⟨u, rfl, rfl⟩ | ⟨hne, rfl⟩
                · cases hys with
                  | cons _ y _ ys h5 h6 => cases h6; exact h5
                · have : (match ys with | [v] => v | l => Value.tuple l.toArray) = .tuple ys.toArray := by
                    match ys, hys with
                    | [], _ => rfl
                    | [y], hys => cases hys with | cons u _ _ _ _ h6 => cases h6; exact absurd rfl (hne u)
                    | y :: z :: r, _ => rfl
                  rw [this]
                  exact .tup _ _ hys
            rcases hee with rfl | rfl <;> exact key
          split at he
          · cases he
          · rename_i e rg' h1' hne hself
            refine go e rg' h1' ?_ hself he
            cases e with
            | nm => exact .inl rfl
            | ret => exact .inr rfl
            | exit id => exact absurd rfl (hne id)
          · cases he
theorem ev_sound (hm : P.follows .mixedOrders = true) (hS : SumOk P G B w0 S) : ∀ n, EvOk P G B w0 (ev P G S n)
  | 0 => fun c rg h e rg' h' he => by cases he
  | n + 1 => ev_step hm (call_sound hm hS (ev_sound hm hS n)) (callR_mw hS.1 (ev_mw hS.1 n)) (ev_sound hm hS n)
/-- A run of the evaluator is a call that returns. -/
theorem run_sound (hm : P.follows .mixedOrders = true) (hS : SumOk P G B w0 S) (n : Nat) : CallOk P G B w0 (runF P G S n) := call_sound hm hS (ev_sound hm hS n)
end
end Go.Proofs.YthdaccndnfgeeaaGreatDoor.CM
