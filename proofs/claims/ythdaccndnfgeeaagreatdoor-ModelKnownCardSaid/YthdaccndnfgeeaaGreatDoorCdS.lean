/- Code: the evaluator's run is a run of the model. No program in sight. -/
import Derived.Test.YthdaccndnfgeeaaGreatDoorMoR
namespace Go.Proofs.YthdaccndnfgeeaaGreatDoor.CM
open Go
section
variable {P : Program} {G : Nat → Option (List V)} {B : Nat} {w0 : World} {n : Nat} {call : Cl}
theorem vcOp_mono {o : Oper} {a : Act} {w : World} {K K' : Value → World → Prop} (h : vcOp P o a w K) (hk : ∀ v w', K v w' → K' v w') : vcOp P o a w K' := by
  unfold vcOp vcOpR at *
  split at h
  · exact hk _ _ h
  · exact hk _ _ h
  · exact h.mono hk
  · split
    · rename_i hp; rw [if_pos hp] at h; exact h.mono fun v hv => hk _ _ hv
    · rename_i hp
      rw [if_neg hp] at h
      split
      · rename_i hr; rw [if_pos hr] at h; exact h.mono fun v hv => hk _ _ hv
      · rename_i hr; rw [if_neg hr] at h; exact h.mono hk
theorem pend_mono {ρ ρ' : Vl} {v : V} {h : Hp} {x : Value} {w : World} (e : Ext ρ ρ') (hp : PV B w0 ρ' v h x w) : PV B w0 ρ v h x w :=
  let ⟨r, h1, h2, h3⟩ := hp; ⟨r, e.trans h1, h2, h3⟩

/-! ### Guards -/
theorem slotB_rv {ρ : Vl} {rg : Rg} {a : Act} (R : RR ρ n rg a) (ops : List Oper) (j : Nat) (want : Bool) : wantS ops rg j want = true ↔ slotB ops j a = .bool want := by
  unfold wantS slotB
  cases operAt ops j with
  | none => simp [undef]
  | some o =>
    simp only
    cases o.dst with
    | none => simp [undef]
    | some d =>
      simp only
      have h := R.get d
      cases hg : rg.get (bp d) with
      | none =>
        rw [hg] at h
        simp only at h
        generalize nthV a.tmps.toList d = x at *
        cases h
        simp [wantV]
      | some v =>
        rw [hg] at h
        simp only at h
        generalize nthV a.tmps.toList d = x at *
        unfold wantV
        cases h with
        | bool b => cases b <;> cases want <;> simp [wantB]
        | _ => simp [ptr]
theorem slotB_slotOf (ops : Array Oper) (j : Nat) (a : Act) : slotB ops.toList j a = slotOf ops j a := by rw [slotB_eq, Array.toArray_toList]
theorem want_none {ops : List Oper} {rg : Rg} : want? ops rg none = true := rfl

/-! ### Operations in order -/
theorem stepR_some {ops : List Oper} {o : Oper} {k : Rg → Hp → Rs} {rg : Rg} {h : Hp} {x : Rg × Hp} (e : stepR P call ops o k rg h = some x) :
    (want? ops rg o.guard = true ∧ ∃ v h1, exR P call rg o h = some (v, h1) ∧ k (putD rg o.dst v) h1 = some x) ∨ (want? ops rg o.guard = false ∧ k (putD rg o.dst undV) h = some x) := by
  unfold stepR at e
  cases hw : want? ops rg o.guard with
  | false => rw [hw] at e; exact .inr ⟨rfl, e⟩
  | true =>
    rw [hw] at e
    refine .inl ⟨rfl, ?_⟩
    have e : putK o rg (exR P call rg o h) k = some x := e
    unfold putK at e
    cases hx : exR P call rg o h with
    | none => rw [hx] at e; cases e
    | some p => obtain ⟨v, h1⟩ := p; rw [hx] at e; exact ⟨v, h1, rfl, e⟩
theorem putD_g (rg : Rg) (d : Option Tmp) (v : V) : (putD rg d v).g = rg.g := by cases d <;> rfl
theorem ops_sound (hc : CallOk P G B w0 call) (opsA : Array Oper) : ∀ (l : List Oper) (rg : Rg) (h : Hp) (x : Rg × Hp), opsR P call opsA.toList l rg h = some x → rg.g = G → (∀ o ∈ l, ∀ d, o.dst = some d → d < n) →
    ∀ {ρ : Vl} {a : Act} {w : World}, RH B w0 ρ h w → RR ρ n rg a → ∀ {Q : Act → World → Prop}, (∀ ρ' a' w', Ext ρ ρ' → RH B w0 ρ' x.2 w' → RR ρ' n x.1 a' → x.1.g = G → Q a' w') → vcOps P opsA l Q a w
  | [], rg, h, x, e, hg, _, ρ, a, w, H, R, Q, hQ => by
    cases e
    exact hQ ρ a w (.refl _) H R hg
  | o :: l, rg, h, x, e, hg, hd, ρ, a, w, H, R, Q, hQ => by
    have e : stepR P call opsA.toList o (opsR P call opsA.toList l) rg h = some x := e
    have hd' : ∀ o ∈ l, ∀ d, o.dst = some d → d < n := fun q hq => hd q (List.mem_cons_of_mem _ hq)
    have hdo : ∀ d, o.dst = some d → d < n := hd o (List.mem_cons_self ..)
    simp only [vcOps]
    have go : ∀ v h1, exR P call rg o h = some (v, h1) → opsR P call opsA.toList l (putD rg o.dst v) h1 = some x → vcOp P o a w fun v w' => vcOps P opsA l Q (putA a o.dst v) w' := fun v h1 hx hk => by
      refine vcOp_mono (ex_all (hg ▸ hc) H R hx) fun y w' hy => ?_
      obtain ⟨ρ', e1, H', hy⟩ := hy
      exact ops_sound hc opsA l _ _ x hk (by rw [putD_g]; exact hg) hd' H' ((R.mono e1).put hdo hy) fun ρ2 a2 w2 e2 => hQ ρ2 a2 w2 (e1.trans e2)
    have skip : opsR P call opsA.toList l (putD rg o.dst undV) h = some x → vcOps P opsA l Q (putA a o.dst undef) w := fun hk =>
      ops_sound hc opsA l _ _ x hk (by rw [putD_g]; exact hg) hd' H (R.put hdo rv_undef) hQ
    rcases stepR_some e with ⟨hw, v, h1, hx, hk⟩ | ⟨hw, hk⟩
    · split
      · exact go v h1 hx hk
      · rename_i j want hgd
        refine ⟨.inl ⟨?_, go v h1 hx hk⟩⟩
        rw [hgd] at hw
        rw [← slotB_slotOf]
        exact (slotB_rv R _ _ _).1 hw
    · split
      · rename_i hgd; rw [hgd] at hw; cases hw
      · rename_i j want hgd
        refine ⟨.inr ⟨?_, skip hk⟩⟩
        rw [hgd] at hw
        rw [← slotB_slotOf]
        intro hs
        have hs' : wantS opsA.toList rg j want = true := (slotB_rv R _ _ _).2 hs
        have hw : wantS opsA.toList rg j want = false := hw
        rw [hw] at hs'
        cases hs'

/-! ### The same value -/
theorem bpEq_eq : ∀ {p q : Bp}, bpEq p q = true → p = q
  | .h, .h, _ => rfl
  | .h, .o _, e => by cases e
  | .h, .i _, e => by cases e
  | .o _, .h, e => by cases e
  | .o p, .o q, e => by rw [bpEq_eq (p := p) (q := q) e]
  | .o _, .i _, e => by cases e
  | .i _, .h, e => by cases e
  | .i _, .o _, e => by cases e
  | .i p, .i q, e => by rw [bpEq_eq (p := p) (q := q) e]
theorem eqN {a b : Nat} (h : Nat.beq a b = true) : a = b := Nat.eq_of_beq_eq_true h
theorem sEq_sound {ρ ρ1 ρ2 : Vl} {x y : V} {X Y : Value} (e1 : Ext0 ρ ρ1) (e2 : Ext0 ρ ρ2) (hx : RV ρ x X) (hy : RV ρ2 y Y) (e12 : Ext0 ρ1 ρ2) (e : sEq x y = true) : X = Y := by
  have hx := hx.mono0 (e1.trans e12)
  unfold sEq at e
  split at e
  · simp only [Bool.and_eq_true] at e
    have := kbeq_eq e.1
    subst this
    have h2 := e.2
    rw [eqI_eq] at h2
    rw [rv_int hx, rv_int hy]
    rw [eq_of_beq h2]
  · rw [boolEq_eq] at e
    cases hx; cases hy
    rw [eq_of_beq e]
  · rw [strEq_eq] at e
    have := eq_of_beq e
    subst this
    cases hx; cases hy; rfl
  · cases hx; cases hy; rfl
  · simp only [Bool.and_eq_true] at e
    have h1 := bpEq_eq e.1
    have h2 := eqN e.2
    subst h1 h2
    cases hx with
    | ptr _ _ r g h =>
      cases hy with
      | ptr _ _ r' g' h' => rw [h] at h'; cases h'; rfl
  · cases hx; cases hy; rfl
  · simp only [Bool.and_eq_true] at e
    have h1 := bpEq_eq e.1.1.1
    have h2 := eqN e.1.1.2
    have h3 := eqN e.1.2
    have h4 := eqN e.2
    subst h1 h2 h3 h4
    cases hx with
    | sl _ _ _ _ r g h =>
      cases hy with
      | sl _ _ _ _ r' g' h' => rw [h] at h'; cases h'; rfl
  · simp only [Bool.and_eq_true] at e
    have h1 := bpEq_eq e.1.1.1.1
    have h2 := eqN e.1.1.1.2
    have h3 := eqN e.1.1.2
    have h4 := eqN e.1.2
    have h5 := Nat.le_of_ble_eq_true e.2
    subst h1 h2 h3 h4
    cases hx with
    | sg _ _ _ _ r g q h ho hk =>
      cases hy with
      | sg _ _ _ _ r' g' q' h' ho' hk' =>
        rw [h] at h'; cases h'
        have a1 := ho.resolve_right (by omega)
        have a2 := ho'.resolve_right (by omega)
        rw [a1, a2]
  · cases hx; cases hy; rfl
  · have h1 := bpEq_eq e
    subst h1
    cases hx with
    | map _ r g h =>
      cases hy with
      | map _ r' g' h' => rw [h] at h'; cases h'; rfl
  · cases hx; cases hy; rfl
  · simp only [Bool.and_eq_true] at e
    have h1 := eqN e.1.1.1
    have h2 := eqN e.1.1.2
    have h3 := eqN e.1.2
    have h4 := eqN e.2
    rw [lenL_eq, lenL_eq] at h4
    subst h1 h2 h3
    cases hx; cases hy
    rw [h4]
  · simp only [Bool.and_eq_true] at e
    have h1 := eqN e.1
    have h2 := eqN e.2
    subst h1 h2
    cases hx; cases hy; rfl
  · cases e
theorem allS_sound {ρ ρ1 ρ2 : Vl} (e1 : Ext0 ρ ρ1) (e2 : Ext0 ρ ρ2) (e12 : Ext0 ρ1 ρ2) : ∀ {l m : List V} {xs ys : List Value}, RVs ρ l xs → RVs ρ2 m ys → allS l m = true → xs = ys
  | [], [], _, _, hx, hy, _ => by cases hx; cases hy; rfl
  | [], _ :: _, _, _, _, _, e => by cases e
  | _ :: _, [], _, _, _, _, e => by cases e
  | x :: l, y :: m, _, _, hx, hy, e => by
    cases hx with
    | cons _ X _ xs h1 h2 =>
      cases hy with
      | cons _ Y _ ys h3 h4 =>
        have e : (match sEq x y with | true => allS l m | false => false) = true := e
        cases hs : sEq x y with
        | false => rw [hs] at e; cases e
        | true => rw [hs] at e; rw [sEq_sound e1 e2 h1 h3 e12 hs, allS_sound e1 e2 e12 h2 h4 e]
theorem vEq_sound {ρ ρ1 ρ2 : Vl} {x y : V} {X Y : Value} (e1 : Ext0 ρ ρ1) (e2 : Ext0 ρ ρ2) (hx : RV ρ x X) (hy : RV ρ2 y Y) (e12 : Ext0 ρ1 ρ2) (e : vEq x y = true) : X = Y := by
  unfold vEq at e
  split at e
  · cases hx with
    | agg _ xs h1 h2 =>
      cases hy with
      | agg _ ys h3 h4 => rw [allS_sound e1 e2 e12 h1 h3 e]
  · exact sEq_sound e1 e2 hx hy e12 e

theorem bpEq_refl (p : Bp) : bpEq p p = true := by
  induction p with
  | h => rfl
  | o p ih => exact ih
  | i p ih => exact ih
theorem strEq_refl (l : List Nat) : strEq l l = true := by
  induction l with
  | nil => rfl
  | cons x l ih =>
    show (match Nat.beq x x with | true => strEq l l | false => false) = true
    rw [Nat.beq_refl]; exact ih
theorem eqI_refl (a : Int) : eqI a a = true := by cases a <;> exact Nat.beq_refl _
theorem sEq_refl {x : V} (h : sRef x = true) : sEq x x = true := by
  cases x <;> first
    | (cases h; done)
    | rfl
    | (simp only [sEq, kbeq, bpEq_refl, strEq_refl, eqI_refl, Nat.beq_refl, Bool.and_self]; done)
    | (rename_i b; cases b <;> rfl)
    | (simp only [sEq, bpEq_refl, Nat.beq_refl, Bool.and_self, Bool.true_and]; exact h)
theorem allS_refl : ∀ {l : List V}, allRef l = true → allS l l = true
  | [], _ => rfl
  | x :: l, h => by
    have h : (match sRef x with | true => allRef l | false => false) = true := h
    cases hx : sRef x with
    | false => rw [hx] at h; cases h
    | true =>
      rw [hx] at h
      show (match sEq x x with | true => allS l l | false => false) = true
      rw [sEq_refl hx]; exact allS_refl h
theorem vEq_refl {x : V} (h : vRef x = true) : vEq x x = true := by
  cases x with
  | agg l => exact allS_refl h
  | int k n => exact sEq_refl (x := .int k n) h
  | bool b => exact sEq_refl (x := .bool b) h
  | str s => exact sEq_refl (x := .str s) h
  | nilp => exact sEq_refl (x := .nilp) h
  | ptr b o => exact sEq_refl (x := .ptr b o) h
  | nils => exact sEq_refl (x := .nils) h
  | sl b o n c => exact sEq_refl (x := .sl b o n c) h
  | sg b o n k => exact sEq_refl (x := .sg b o n k) h
  | nilm => exact sEq_refl (x := .nilm) h
  | map b => exact sEq_refl (x := .map b) h
  | nilf => exact sEq_refl (x := .nilf) h
  | fn f l => exact sEq_refl (x := .fn f l) h
  | tup l => exact sEq_refl (x := .tup l) h
  | ro r o c es z => exact sEq_refl (x := .ro r o c es z) h
  | rp r o l => exact sEq_refl (x := .rp r o l) h
/-- What the question told. -/
theorem chkW_some {h h' : Hp} {v : V} {h1 : Hp} {rg : Rg} {o : Oper} (hr : (readOp o.op || cvPure P o.op) = true) (m : Mo h h') (hx : exR P call rg o h = some (v, h1)) (e : chkW rg o h v h' (exR P call rg o h') = true) : ∃ v' h3, exR P call rg o h' = some (v', h3) ∧ vEq v v' = true := by
  have old : chk (exR P call rg o h') v = true → ∃ v' h3, exR P call rg o h' = some (v', h3) ∧ vEq v v' = true := fun e => by
    unfold chk at e
    split at e
    · rename_i v' h3 hx'; exact ⟨v', h3, hx', e⟩
    · cases e
  unfold chkW at e
  split at e
  · rename_i hw
    split at e
    · rename_i hv
      obtain ⟨h3, hx'⟩ := exR_same hr m hw hx
      exact ⟨v, h3, hx', vEq_refl hv⟩
    · exact old e
  · exact old e

/-! ### A region whose order is open -/
/-- Each thing asked is so anyhow, or is told by the evaluator's own question of that number. -/
def PR (B : Nat) (w0 : World) (ρ : Vl) (h : Hp) (pend : Pnd) (asks : Asks) : Prop :=
  ∀ q ∈ asks, (∀ w, q.2 w) ∨ ∃ p ∈ pend, p.1 = q.1 ∧ ∀ ρ1 h1 w1, Ext0 ρ ρ1 → Mo h h1 → RH B w0 ρ1 h1 w1 → p.2 h1 = true → q.2 w1
theorem PR.mono {ρ ρ' : Vl} {h h' : Hp} {pend : Pnd} {asks : Asks} (e : Ext0 ρ ρ') (m : Mo h h') (hp : PR B w0 ρ h pend asks) : PR B w0 ρ' h' pend asks := fun q hq =>
  (hp q hq).imp id fun ⟨p, hp, h1, h2⟩ => ⟨p, hp, h1, fun ρ1 h1 w1 e1 m1 => h2 ρ1 h1 w1 (e.trans e1) (m.trans m1)⟩
theorem PR.more {ρ : Vl} {h : Hp} {pend : Pnd} {asks : Asks} (p : Nat × (Hp → Bool)) (hp : PR B w0 ρ h pend asks) : PR B w0 ρ h (p :: pend) asks := fun q hq =>
  (hp q hq).imp id fun ⟨p', hp, h1, h2⟩ => ⟨p', List.mem_cons_of_mem _ hp, h1, h2⟩
theorem mem_keepB {t : Nat} {l : Asks} {q : Nat × (World → Prop)} : q ∈ keepB t l ↔ q ∈ l ∧ t.testBit q.1 = false := by
  rw [keepB_eq, List.mem_filter]; simp
theorem mem_keepP {t : Nat} : ∀ {l : Pnd} {q : Nat × (Hp → Bool)}, q ∈ l → t.testBit q.1 = false → q ∈ keepP t l
  | p :: l, q, h, ht => by
    show q ∈ (match Nat.testBit t p.1 with | true => keepP t l | false => p :: keepP t l)
    rcases List.mem_cons.1 h with rfl | h
    · rw [ht]; exact List.mem_cons_self ..
    · have := mem_keepP h ht
      cases Nat.testBit t p.1 with
      | true => exact this
      | false => exact List.mem_cons_of_mem _ this
theorem PR.keep {ρ : Vl} {h : Hp} {pend : Pnd} {asks : Asks} (hp : PR B w0 ρ h pend asks) (t : Nat) : PR B w0 ρ h (keepP t pend) (keepB t asks) := fun q hq => by
  obtain ⟨h1, h2⟩ := mem_keepB.1 hq
  exact (hp q h1).imp id fun ⟨p, hp, h3, h4⟩ => ⟨p, mem_keepP hp (by rw [h3]; exact h2), h3, h4⟩
theorem allP_mem {h : Hp} : ∀ {l : Pnd}, allP h l = true → ∀ p ∈ l, p.2 h = true
  | p :: l, e, q, hq => by
    have e : (match p.2 h with | true => allP h l | false => false) = true := e
    cases hp : p.2 h with
    | false => rw [hp] at e; cases e
    | true =>
      rw [hp] at e
      rcases List.mem_cons.1 hq with rfl | hq
      · exact hp
      · exact allP_mem e q hq
theorem stbs_intro {w : World} {K : Prop} (hK : K) : ∀ {l : Asks}, (∀ p ∈ l, p.2 w) → stbs l w K
  | [], _ => hK
  | p :: l, h => ⟨h p (List.mem_cons_self ..), stbs_intro hK fun q hq => h q (List.mem_cons_of_mem _ hq)⟩
theorem PR.holds {ρ : Vl} {pend : Pnd} {asks : Asks} {h : Hp} {w : World} (hp : PR B w0 ρ h pend asks) (H : RH B w0 ρ h w) (ha : allP h pend = true) : ∀ q ∈ asks, q.2 w := fun q hq =>
  match hp q hq with
  | .inl h => h w
  | .inr ⟨p, hp, _, h2⟩ => h2 ρ h w (.refl _) (.refl _) H (allP_mem ha p hp)
theorem quietK_some {o : Oper} {i : Nat} {pend : Pnd} {k : Pnd → Rg → Hp → Rs} {rg : Rg} {h : Hp} {r : Res} {x : Rg × Hp} (e : quietK P call o i pend k rg h r = some x) :
    ∃ v h1, r = some (v, h1) ∧ k (addP P o i (fun h' => chkW rg o h v h' (exR P call rg o h')) pend) (putD rg o.dst v) h1 = some x := by
  unfold quietK at e
  cases r with
  | none => cases e
  | some p => obtain ⟨v, h1⟩ := p; exact ⟨v, h1, rfl, e⟩
theorem quietR_some {ops : List Oper} {o : Oper} {i : Nat} {pend : Pnd} {k : Pnd → Rg → Hp → Rs} {rg : Rg} {h : Hp} {x : Rg × Hp} (e : quietR P call ops o i pend k rg h = some x) :
    (want? ops rg o.guard = true ∧ ∃ v h1, exR P call rg o h = some (v, h1) ∧ k (addP P o i (fun h' => chkW rg o h v h' (exR P call rg o h')) pend) (putD rg o.dst v) h1 = some x) ∨ (want? ops rg o.guard = false ∧ k pend (putD rg o.dst undV) h = some x) := by
  unfold quietR at e
  cases hw : want? ops rg o.guard with
  | false => rw [hw] at e; exact .inr ⟨rfl, e⟩
  | true =>
    rw [hw] at e
    exact .inl ⟨rfl, quietK_some e⟩
theorem loudK_some {k : Pnd → Rg → Hp → Rs} {pend : Pnd} {rg : Rg} {h : Hp} {x : Rg × Hp} (e : loudK k pend rg h = some x) : allP h pend = true ∧ k pend rg h = some x := by
  unfold loudK at e
  cases ha : allP h pend with
  | false => rw [ha] at e; cases e
  | true => rw [ha] at e; exact ⟨rfl, e⟩
theorem pure_vc {o : Oper} {a : Act} {w : World} {K : Value → World → Prop} (hp : pureOp o.op = true) (hm : ∀ x, o.op ≠ .move x) (ha : ∀ x, o.op ≠ .assign x) (h : vcOp P o a w K) : Pu P (semR (evA a) o) fun v => K v w := by
  unfold vcOp vcOpR at h
  split at h
  · rename_i x hx; exact absurd hx (hm x)
  · rename_i x hx; exact absurd hx (ha x)
  · rename_i f args ts hx; rw [hx] at hp; cases hp
  · rw [if_pos hp] at h; exact h
theorem read_vc {o : Oper} {a : Act} {w : World} {K : Value → World → Prop} (hq : pureOp o.op = false) (hp : readOp o.op = true) (h : vcOp P o a w K) : Rd P (semR (evA a) o) w fun v => K v w := by
  unfold vcOp vcOpR at h
  split at h
  · rename_i x hx; rw [hx] at hp; cases hp
  · rename_i x hx; rw [hx] at hp; cases hp
  · rename_i f args ts hx; rw [hx] at hp; cases hp
  · rw [hq, if_neg (by simp), if_pos hp] at h; exact h
theorem quietAt_some {l : List Oper} {k : Nat} (h : quietAt P l k = true) : ∃ o, operAt l k = some o ∧ quietOp P o = true := by
  rw [quietAt_eq] at h
  rw [operAt_eq]
  cases hl : l[k]? with
  | none => rw [hl] at h; cases h
  | some o => rw [hl] at h; exact ⟨o, rfl, h⟩
theorem findB_quiet {l : List Oper} {r : List Nat} {i : Nat} (h : findB P l r = some i) : quietAt P l i = true := by
  rw [findB_eq] at h
  rw [quietAt_eq]
  have := List.find?_some (p := fun i => (l[i]?).any (quietOp P)) h
  exact this
theorem move_ex {rg : Rg} {o : Oper} {h h1 : Hp} {v : V} {x : Operand} (hop : o.op = .move x ∨ o.op = .assign x) (he : exR P call rg o h = some (v, h1)) : opV rg x = some v ∧ h1 = h := by
  have he : sMove x call rg h = some (v, h1) := by rcases hop with hop | hop <;> (simp only [exR, exO, hop] at he; exact he)
  obtain ⟨hu, rfl⟩ := pV_some he
  exact ⟨hu, rfl⟩
end
end Go.Proofs.YthdaccndnfgeeaaGreatDoor.CM
