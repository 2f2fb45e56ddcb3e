/- The same conditions over frames that are lists of what was put: what the kernel reckons quickly. No program in sight. -/
import Derived.Test.YthdaccndnfgeeaaGreatDoorVc
namespace Go.Proofs.YthdaccndnfgeeaaGreatDoor.CM
open Go

abbrev Env := List (Nat × Value)
def lk : Env → Nat → Value
  | [], _ => undef
  | p :: r, t => match Nat.beq p.1 t with
    | true => p.2
    | false => lk r t
def evE (e : Env) : Operand → Value
  | .tmp t => lk e t
  | .const v => v
  | .global g => .pointer (some ⟨g, 0, none⟩)
  | .func f => .func (.func f) #[] #[]
def putE (e : Env) (dst : Option Tmp) (v : Value) : Env :=
  match dst with
  | some d => (d, v) :: e
  | none => e
def lkAll (e : Env) : Nat → Nat → List Value
  | 0, _ => []
  | n + 1, k => lk e k :: lkAll e n (k + 1)
def actOf (n : Nat) (e : Env) : Act := ⟨⟨lkAll e n 0⟩, []⟩
def Keys (n : Nat) (e : Env) : Prop := ∀ p ∈ e, p.1 < n
theorem lk_no {n : Nat} {e : Env} (h : Keys n e) {t : Nat} (ht : n ≤ t) : lk e t = undef := by
  induction e with
  | nil => rfl
  | cons p r ih =>
    have h1 := h p (List.mem_cons_self ..)
    simp only [lk]
    have : Nat.beq p.1 t = false := by
      cases hb : Nat.beq p.1 t with
      | false => rfl
      | true => have := Nat.eq_of_beq_eq_true hb; omega
    rw [this]
    exact ih fun q hq => h q (List.mem_cons_of_mem _ hq)
theorem lkAll_get (e : Env) (n k i : Nat) : (lkAll e n k)[i]? = if i < n then some (lk e (k + i)) else none := by
  induction n generalizing k i with
  | zero => simp [lkAll]
  | succ n ih =>
    cases i with
    | zero => simp [lkAll]
    | succ i => simp only [lkAll, List.getElem?_cons_succ, ih, Nat.add_lt_add_iff_right]; simp [Nat.add_assoc, Nat.add_comm 1 i]
theorem lkAll_length (e : Env) (n k : Nat) : (lkAll e n k).length = n := by
  induction n generalizing k with
  | zero => rfl
  | succ n ih => simp [lkAll, ih]
theorem nth_lkAll {n : Nat} {e : Env} (h : Keys n e) (t : Nat) : nthV (lkAll e n 0) t = lk e t := by
  rw [nthV_eq, List.getD_eq_getElem?_getD, lkAll_get]
  by_cases ht : t < n
  · simp [ht]
  · simp [ht, lk_no h (Nat.not_lt.1 ht)]
theorem evA_actOf {n : Nat} {e : Env} (h : Keys n e) : evA (actOf n e) = evE e := by
  funext x
  cases x with
  | tmp t => exact nth_lkAll h t
  | _ => rfl
theorem putA_actOf {n : Nat} {e : Env} {dst : Option Tmp} (hd : ∀ d, dst = some d → d < n) (v : Value) : putA (actOf n e) dst v = actOf n (putE e dst v) := by
  cases dst with
  | none => rfl
  | some d =>
    have hd := hd d rfl
    unfold putA actOf putE
    simp only [Act.mk.injEq, and_true, Array.mk.injEq]
    rw [setV_eq]
    apply List.ext_getElem?
    intro i
    rw [List.getElem?_set, lkAll_get, lkAll_length]
    by_cases hi : d = i
    · subst hi
      simp only [if_true, hd, Nat.zero_add, lkAll_get, lk, Nat.beq_refl]
    · rw [if_neg hi, lkAll_get]
      have : Nat.beq d i = false := by
        cases hb : Nat.beq d i with
        | false => rfl
        | true => exact absurd (Nat.eq_of_beq_eq_true hb) hi
      simp [lk, this]
theorem Keys.put {n : Nat} {e : Env} (h : Keys n e) {dst : Option Tmp} (hd : ∀ d, dst = some d → d < n) (v : Value) : Keys n (putE e dst v) := by
  cases dst with
  | none => exact h
  | some d => intro p hp; rcases List.mem_cons.1 hp with rfl | hp; exact hd d rfl; exact h p hp

def dstOk (n : Nat) (o : Oper) : Bool := match o.dst with
  | some d => Nat.blt d n
  | none => true
theorem dstOk_spec {n : Nat} {o : Oper} (h : dstOk n o = true) : ∀ d, o.dst = some d → d < n := by
  intro d hd
  simp only [dstOk, hd] at h
  exact Nat.le_of_ble_eq_true h

/-- One operation, its guard aside. -/
def vcOpE (P : Program) (o : Oper) (e : Env) (w : World) (K : Value → World → Prop) : Prop := vcOpR P o (evE e) w K
theorem vcOpE_eq {P : Program} {o : Oper} {n : Nat} {e : Env} (h : Keys n e) (w : World) (K : Value → World → Prop) : vcOp P o (actOf n e) w K = vcOpE P o e w K := by
  unfold vcOp vcOpE
  rw [evA_actOf h]
def slotE (ops : List Oper) (j : Nat) (e : Env) : Value :=
  match operAt ops j with
  | some o => match o.dst with
    | some d => lk e d
    | none => undef
  | none => undef
theorem slotE_eq {ops : List Oper} {j n : Nat} {e : Env} (h : Keys n e) : slotB ops j (actOf n e) = slotE ops j e := by
  unfold slotB slotE
  cases operAt ops j with
  | none => rfl
  | some o => cases ho : o.dst with
    | none => simp only [ho]
    | some d => simp only [ho]; exact nth_lkAll h d
def vcOpsE (P : Program) (ops : List Oper) : List Oper → (Env → World → Prop) → Env → World → Prop
  | [], Q, e, w => Q e w
  | o :: r, Q, e, w =>
    match o.guard with
    | none => vcOpE P o e w fun v w' => vcOpsE P ops r Q (putE e o.dst v) w'
    | some (j, want) => Gd (slotE ops j e) want (fun K => vcOpE P o e w K) w fun v w' => vcOpsE P ops r Q (putE e o.dst v) w'
theorem vcOpE.mono {P : Program} {o : Oper} {e : Env} {w : World} {K K' : Value → World → Prop} (h : vcOpE P o e w K) (hk : ∀ v w, K v w → K' v w) : vcOpE P o e w K' := by
  unfold vcOpE vcOpR at *
  split <;> simp only [*] at h
  · exact hk _ _ h
  · exact hk _ _ h
  · exact Fc.mono h hk
  · split
    · rename_i hp; simp only [hp, if_true] at h; exact Pu.mono h fun v => hk v _
    · rename_i hp
      split
      · rename_i hr; simp only [hp, hr, if_true, if_false, Bool.false_eq_true] at h; exact Rd.mono h fun v => hk v _
      · rename_i hr; simp only [hp, hr, if_false, Bool.false_eq_true] at h; exact Nx.mono h hk
theorem Gd.mono {v : Value} {b : Bool} {E : (Value → World → Prop) → Prop} {w : World} {K K' : Value → World → Prop} (h : Gd v b E w K) (hE : E K → E K') (hk : ∀ v w, K v w → K' v w) : Gd v b E w K' :=
  ⟨h.out.imp (fun ⟨a, b⟩ => ⟨a, hE b⟩) fun ⟨a, b⟩ => ⟨a, hk _ _ b⟩⟩
theorem vcOpsE_sound {P : Program} {ops : List Oper} {n : Nat} {q : Env → World → Prop} {Q : Act → World → Prop} (hq : ∀ e w, Keys n e → q e w → Q (actOf n e) w) :
    ∀ (l : List Oper) (e : Env) (w : World), Keys n e → (∀ o ∈ l, dstOk n o = true) → vcOpsE P ops l q e w → vcOps P ops.toArray l Q (actOf n e) w
  | [], e, w, hK, _, h => hq e w hK h
  | o :: l, e, w, hK, hd, h => by
    have hdo := dstOk_spec (hd o (List.mem_cons_self ..))
    have ih : ∀ v w', vcOpsE P ops l q (putE e o.dst v) w' → vcOps P ops.toArray l Q (actOf n (putE e o.dst v)) w' := fun v w' => vcOpsE_sound hq l (putE e o.dst v) w' (hK.put hdo v) (fun o ho => hd o (List.mem_cons_of_mem _ ho))
    simp only [vcOpsE] at h
    simp only [vcOps, putA_actOf hdo, ← slotB_eq, slotE_eq hK, vcOpE_eq hK]
    split <;> simp only [*] at h
    · exact vcOpE.mono h ih
    · exact Gd.mono h (fun h => vcOpE.mono h ih) ih

def vcAnyE (P : Program) (ops : List Oper) (em tb : List Nat) (Q : Env → World → Prop) : Nat → Nat → Asks → Env → World → Prop
  | 0, m, _, e, w => match readyB m em 0 with | [] => Q e w | _ => False
  | fuel + 1, m, pend, e, w =>
    match findB P ops (readyB m em 0) with
    | some i =>
      match operAt ops i with
      | none => False
      | some o =>
        match o.guard with
        | none =>
          (match o.op with
          | .move x | .assign x => vcAnyE P ops em tb Q fuel (m ||| 2 ^ i) pend (putE e o.dst (evE e x)) w
          | op => if pureOp op then Pu P (semR (evE e) o) fun v => vcAnyE P ops em tb Q fuel (m ||| 2 ^ i) pend (putE e o.dst v) w
            else Rd P (semR (evE e) o) w fun v => vcAnyE P ops em tb Q fuel (m ||| 2 ^ i) ((i, fun w' => Stb P (semR (evE e) o) v w') :: pend) (putE e o.dst v) w)
        | some (j, want) =>
          (match o.op with
          | .move x | .assign x => Gd (slotE ops j e) want (fun K => K (evE e x) w) w fun v w => vcAnyE P ops em tb Q fuel (m ||| 2 ^ i) pend (putE e o.dst v) w
          | op => if pureOp op then Gd (slotE ops j e) want (fun K => Pu P (semR (evE e) o) fun v => K v w) w fun v w => vcAnyE P ops em tb Q fuel (m ||| 2 ^ i) pend (putE e o.dst v) w
            else Gd (slotE ops j e) want (fun K => Rd P (semR (evE e) o) w fun v => K v w) w fun v w => vcAnyE P ops em tb Q fuel (m ||| 2 ^ i) ((i, fun w' => slotE ops j e = .bool want → Stb P (semR (evE e) o) v w') :: pend) (putE e o.dst v) w)
    | none =>
      match readyB m em 0 with
      | [] => Q e w
      | rs => allL (fun i =>
        match operAt ops i with
        | none => False
        | some o =>
          match o.guard with
          | none => vcOpE P o e w fun v w' => stbs (keepB (natAt tb i) pend) w' (vcAnyE P ops em tb Q fuel (m ||| 2 ^ i) (keepB (natAt tb i) pend) (putE e o.dst v) w')
          | some (j, want) => Gd (slotE ops j e) want (fun K => vcOpE P o e w K) w fun v w' => stbs (keepB (natAt tb i) pend) w' (vcAnyE P ops em tb Q fuel (m ||| 2 ^ i) (keepB (natAt tb i) pend) (putE e o.dst v) w')) rs
theorem stbs.mono {pend : Asks} {w : World} {K K' : Prop} (h : stbs pend w K) (hk : K → K') : stbs pend w K' := by
  induction pend with
  | nil => exact hk h
  | cons p r ih => exact ⟨h.1, ih h.2⟩
theorem allL.mono {α : Type} {f f' : α → Prop} : ∀ {l : List α}, allL f l → (∀ x ∈ l, f x → f' x) → allL f' l
  | [], _, _ => trivial
  | [x], h, hf => hf x (List.mem_cons_self ..) h
  | x :: y :: r, h, hf => ⟨hf x (List.mem_cons_self ..) h.1, allL.mono h.2 fun z hz => hf z (List.mem_cons_of_mem _ hz)⟩
theorem vcAnyE_sound {P : Program} {ops : List Oper} {em tb : List Nat} {n : Nat} {q : Env → World → Prop} {Q : Act → World → Prop} (hq : ∀ e w, Keys n e → q e w → Q (actOf n e) w) (hd : ∀ o ∈ ops, dstOk n o = true) :
    ∀ (fuel m : Nat) (pend : Asks) (e : Env) (w : World), Keys n e → vcAnyE P ops em tb q fuel m pend e w → vcAnyB P ops em tb Q fuel m pend (actOf n e) w := by
  intro fuel
  induction fuel with
  | zero =>
    intro m pend e w hK h
    simp only [vcAnyE] at h
    simp only [vcAnyB]
    split <;> simp only [*] at h
    · exact hq e w hK h
  | succ fuel ih =>
    intro m pend e w hK h
    simp only [vcAnyE] at h
    simp only [vcAnyB]
    split
    · rename_i i hi
      simp only [hi] at h
      split
      · rename_i ho; simp only [ho] at h
      · rename_i o ho
        simp only [ho] at h
        have hdo := dstOk_spec (hd o (by rw [operAt_eq] at ho; exact List.mem_of_getElem? ho))
        simp only [putA_actOf hdo, slotE_eq hK, vcOpE_eq hK, evA_actOf hK]
        have ih' := fun m pend v w' => ih m pend (putE e o.dst v) w' (hK.put hdo v)
        split <;> simp only [*] at h
        · split <;> simp only [*] at h
          · exact ih' _ _ _ _ h
          · exact ih' _ _ _ _ h
          · split
            · rename_i hp; simp only [hp, if_true] at h; exact Pu.mono h fun v => ih' _ _ v _
            · rename_i hp; simp only [hp, if_false, Bool.false_eq_true] at h; exact Rd.mono h fun v => ih' _ _ v _
        · split <;> simp only [*] at h
          · exact Gd.mono h (fun h => ih' _ _ _ _ h) fun v w h => ih' _ _ v w h
          · exact Gd.mono h (fun h => ih' _ _ _ _ h) fun v w h => ih' _ _ v w h
          · split
            · rename_i hp; simp only [hp, if_true] at h; exact Gd.mono h (fun h => Pu.mono h fun v => ih' _ _ v _) fun v w h => ih' _ _ v w h
            · rename_i hp; simp only [hp, if_false, Bool.false_eq_true] at h; exact Gd.mono h (fun h => Rd.mono h fun v => ih' _ _ v _) fun v w h => ih' _ _ v w h
    · rename_i hi
      simp only [hi] at h
      split
      · rename_i hr; simp only [hr] at h; exact hq e w hK h
      · rename_i hr
        split at h
        · rename_i hr2; exact absurd hr2 (by simpa using hr)
        · refine allL.mono h fun i _ h => ?_
          split <;> simp only [*] at h
          rename_i o ho
          have hdo := dstOk_spec (hd o (by rw [operAt_eq] at ho; exact List.mem_of_getElem? ho))
          simp only [putA_actOf hdo, slotE_eq hK, vcOpE_eq hK, evA_actOf hK]
          have ih' := fun m pend v w' => ih m pend (putE e o.dst v) w' (hK.put hdo v)
          split <;> simp only [*] at h
          · exact vcOpE.mono h fun v w' h => stbs.mono h (ih' _ _ v w')
          · exact Gd.mono h (fun h => vcOpE.mono h fun v w' h => stbs.mono h (ih' _ _ v w')) fun v w' h => stbs.mono h (ih' _ _ v w')

/-! ### Code -/
def lift (n : Nat) (Q : Exit → Env → World → Prop) : Exit → Act → World → Prop := fun ex a w => ∃ e, a = actOf n e ∧ Keys n e ∧ Q ex e w
def ThenE (next : Env → World → Prop) (Q : Exit → Env → World → Prop) : Exit → Env → World → Prop
  | .normal, e, w => next e w
  | ex, e, w => Q ex e w
def BlockE (id : Nat) (Q : Exit → Env → World → Prop) : Exit → Env → World → Prop
  | .exit i, e, w => match Nat.beq i id with
    | true => Q .normal e w
    | false => Q (.exit i) e w
  | ex, e, w => Q ex e w
def ScopeE (Q : Exit → Env → World → Prop) : Exit → Env → World → Prop
  | .goto _, _, _ => False
  | ex, e, w => Q ex e w
def LpE (ro : Option Nat) (P : Program) (n : Nat) (c : Code) (Q : Exit → Env → World → Prop) (l : List Value) (w : World) : Prop := Lp ro P c (lift n Q) ⟨⟨l⟩, []⟩ w
def RfE (ro : Option Nat) (P : Program) (n : Nat) (g : Operand) (ps : Array Tmp) (assign body : Code) (Q : Exit → Env → World → Prop) (e : Env) (w : World) : Prop := Rf ro P g ps assign body (lift n Q) (actOf n e) w
def vcE (ro : Option Nat) (P : Program) (n : Nat) : Code → (Exit → Env → World → Prop) → Env → World → Prop
  | .skip, Q, e, w => Q .normal e w
  | .region _ ops draw, Q, e, w => match draw with
    | false => vcOpsE P ops.toList ops.toList (fun e w => Q .normal e w) e w
    | true => vcAnyE P ops.toList (emasks ops.toList) (Region.before ops).toList (fun e w => Q .normal e w) ops.size 0 [] e (dr w)
  | .seq x y, Q, e, w => vcE ro P n x (ThenE (fun e w => vcE ro P n y Q e w) Q) e w
  | .cond c x y, Q, e, w => Cnd (evE e c) (vcE ro P n x Q e w) (vcE ro P n y Q e w)
  | .block id c, Q, e, w => vcE ro P n c (BlockE id Q) e w
  | .loop c, Q, e, w => LpE ro P n c Q (lkAll e n 0) w
  | .rangeFunc g ps assign body, Q, e, w => RfE ro P n g ps assign body Q e w
  | .exit id, Q, e, w => Q (.exit id) e w
  | .scope c, Q, e, w => vcE ro P n c (ScopeE Q) e w
  | .label _, Q, e, w => Q .normal e w
  | .goto l, Q, e, w => Q (.goto l) e w
  | .ret, Q, e, w => Q .ret e w
  | .refuse _, _, _, _ => False
def codeOkE (n : Nat) : Code → Bool
  | .region _ ops draw => (if draw then regFree ops else ops.all noDefer) && ops.toList.all (dstOk n)
  | .seq x y => codeOkE n x && codeOkE n y
  | .cond _ x y => codeOkE n x && codeOkE n y
  | .block _ c => codeOkE n c
  | .loop c => codeOkE n c
  | .scope c => codeOkE n c
  | .rangeFunc _ _ x y => codeOkE n x && codeOkE n y
  | _ => true
theorem codeOkE_ok {n : Nat} : ∀ {c : Code}, codeOkE n c = true → codeOk c = true
  | .region _ _ _, h => by simp only [codeOkE, Bool.and_eq_true] at h; exact h.1
  | .seq x y, h => by simp only [codeOkE, Bool.and_eq_true] at h; simp only [codeOk, Bool.and_eq_true]; exact ⟨codeOkE_ok h.1, codeOkE_ok h.2⟩
  | .cond _ x y, h => by simp only [codeOkE, Bool.and_eq_true] at h; simp only [codeOk, Bool.and_eq_true]; exact ⟨codeOkE_ok h.1, codeOkE_ok h.2⟩
  | .block _ c, h => by simp only [codeOkE] at h; simp only [codeOk]; exact codeOkE_ok h
  | .loop c, h => by simp only [codeOkE] at h; simp only [codeOk]; exact codeOkE_ok h
  | .scope c, h => by simp only [codeOkE] at h; simp only [codeOk]; exact codeOkE_ok h
  | .rangeFunc _ _ x y, h => by simp only [codeOkE, Bool.and_eq_true] at h; simp only [codeOk, Bool.and_eq_true]; exact ⟨codeOkE_ok h.1, codeOkE_ok h.2⟩
  | .skip, _ => rfl
  | .label _, _ => rfl
  | .exit _, _ => rfl
  | .goto _, _ => rfl
  | .ret, _ => rfl
  | .refuse _, _ => rfl
theorem Lp.mono {ro : Option Nat} {P : Program} {c : Code} {Q Q' : Exit → Act → World → Prop} {a : Act} {w : World} (h : Lp ro P c Q a w) (hq : ∀ e a w, Q e a w → Q' e a w) : Lp ro P c Q' a w :=
  fun b k cs hro hb hr => let ⟨e, a', w', q, r⟩ := h b k cs hro hb hr; ⟨e, a', w', by cases e <;> first | exact hq _ _ _ q | exact q, r⟩
theorem Rf.mono {ro : Option Nat} {P : Program} {g : Operand} {ps : Array Tmp} {assign body : Code} {Q Q' : Exit → Act → World → Prop} {a : Act} {w : World} (h : Rf ro P g ps assign body Q a w) (hq : ∀ e a w, Q e a w → Q' e a w) : Rf ro P g ps assign body Q' a w :=
  wpIn_mono h fun e a w q => by cases e <;> first | exact hq _ _ _ q | exact q
theorem vcE_sound {ro : Option Nat} {P : Program} {n : Nat} : ∀ (c : Code), codeOkE n c = true → ∀ {Q : Exit → Env → World → Prop} {Q' : Exit → Act → World → Prop}, (∀ ex e w, Keys n e → Q ex e w → Q' ex (actOf n e) w) →
    ∀ (e : Env) (w : World), Keys n e → vcE ro P n c Q e w → vc ro P c Q' (actOf n e) w
  | .skip, _, _, _, hq, e, w, hK, h => hq _ _ _ hK h
  | .label _, _, _, _, hq, e, w, hK, h => hq _ _ _ hK h
  | .exit _, _, _, _, hq, e, w, hK, h => hq _ _ _ hK h
  | .goto _, _, _, _, hq, e, w, hK, h => hq _ _ _ hK h
  | .ret, _, _, _, hq, e, w, hK, h => hq _ _ _ hK h
  | .refuse _, _, _, _, _, _, _, _, h => h.elim
  | .loop c, _, _, _, hq, e, w, _, h => Lp.mono h fun ex a w ⟨e, ha, hK, hQ⟩ => ha ▸ hq ex e w hK hQ
  | .rangeFunc .., _, _, _, hq, e, w, _, h => Rf.mono h fun ex a w ⟨e, ha, hK, hQ⟩ => ha ▸ hq ex e w hK hQ
  | .region _ ops false, hok, _, _, hq, e, w, hK, h => by
    simp only [codeOkE, Bool.and_eq_true, List.all_eq_true] at hok
    have := vcOpsE_sound (fun e w hK h => hq .normal e w hK h) ops.toList e w hK hok.2 h
    simpa [vc] using this
  | .region _ ops true, hok, _, _, hq, e, w, hK, h => by
    simp only [codeOkE, Bool.and_eq_true, List.all_eq_true] at hok
    exact vcAnyE_sound (fun e w hK h => hq .normal e w hK h) hok.2 _ _ _ e _ hK h
  | .seq x y, hok, Q, Q', hq, e, w, hK, h => by
    simp only [codeOkE, Bool.and_eq_true] at hok
    refine vcE_sound x hok.1 (Q := ThenE (fun e w => vcE ro P n y Q e w) Q) ?_ e w hK h
    intro ex e w hK h
    cases ex <;> first | exact vcE_sound y hok.2 hq e w hK h | exact hq _ _ _ hK h
  | .cond c x y, hok, Q, Q', hq, e, w, hK, h => by
    simp only [codeOkE, Bool.and_eq_true] at hok
    simp only [vc, evA_actOf hK]
    exact ⟨Cnd.out h |>.imp (fun ⟨a, b⟩ => ⟨a, vcE_sound x hok.1 hq e w hK b⟩) fun ⟨a, b⟩ => ⟨a, vcE_sound y hok.2 hq e w hK b⟩⟩
  | .block id c, hok, Q, Q', hq, e, w, hK, h => by
    simp only [codeOkE] at hok
    refine vcE_sound c hok (Q := BlockE id Q) ?_ e w hK h
    intro ex e w hK h
    cases ex <;> first | exact hq _ _ _ hK h | skip
    rename_i i
    simp only [BlockE] at h
    simp only [Exit.inBlock]
    cases hb : Nat.beq i id with
    | true => rw [hb] at h; rw [if_pos (Nat.eq_of_beq_eq_true hb)]; exact hq _ _ _ hK h
    | false => rw [hb] at h; rw [if_neg (Nat.ne_of_beq_eq_false hb)]; exact hq _ _ _ hK h
  | .scope c, hok, Q, Q', hq, e, w, hK, h => by
    simp only [codeOkE] at hok
    refine vcE_sound c hok (Q := ScopeE Q) ?_ e w hK h
    intro ex e w hK h
    cases ex <;> first | exact hq _ _ _ hK h | exact h.elim

/-! ### A function -/
def resE (P : Program) (e : Env) (w : World) (K : Value → World → Prop) : List ResultVar → List Value → Prop
  | [], acc => K (match acc with | [v] => v | l => .tuple l.toArray) w
  | .tmp t :: r, acc => resE P e w K r (acc ++ [lk e t])
  | .cell a t :: r, acc => Rd P (do pure (.value (← loadVar t (← asAddr (lk e a))))) w fun v => resE P e w K r (acc ++ [v])
def retE (P : Program) (res : List ResultVar) (K : Value → World → Prop) : Exit → Env → World → Prop
  | .normal, e, w | .ret, e, w => resE P e w K res []
  | _, _, _ => False
theorem resE_resV {P : Program} {n : Nat} {e : Env} (hK : Keys n e) {w : World} {K : Value → World → Prop} : ∀ {l : List ResultVar} {acc : List Value}, resE P e w K l acc → resV P (actOf n e).tmps w K l acc
  | [], _, h => h
  | .tmp t :: r, acc, h => by
    simp only [resE] at h
    simp only [resV, actOf, nth_lkAll hK]
    exact resE_resV hK h
  | .cell a t :: r, acc, h => by
    simp only [resE] at h
    simp only [resV, actOf, nth_lkAll hK]
    exact Rd.mono h fun v h => resE_resV hK h
def envOf : List Value → Nat → Env
  | [], _ => []
  | v :: l, k => (k, v) :: envOf l (k + 1)
theorem envOf_lk (l : List Value) (k i : Nat) : lk (envOf l k) (k + i) = l.getD i undef := by
  induction l generalizing k i with
  | nil => rfl
  | cons v l ih =>
    simp only [envOf, lk]
    cases i with
    | zero => simp
    | succ i =>
      have : Nat.beq k (k + (i + 1)) = false := by
        cases hb : Nat.beq k (k + (i + 1)) with
        | false => rfl
        | true => have := Nat.eq_of_beq_eq_true hb; omega
      rw [this]
      have := ih (k + 1) i
      rw [show k + 1 + i = k + (i + 1) by omega] at this
      simpa using this
theorem envOf_keys {n : Nat} (l : List Value) (k : Nat) (h : k + l.length ≤ n) : Keys n (envOf l k) := by
  induction l generalizing k with
  | nil => intro p hp; simp [envOf] at hp
  | cons v l ih =>
    simp only [List.length_cons] at h
    intro p hp
    rcases List.mem_cons.1 hp with rfl | hp
    · simp only; omega
    · exact ih (k + 1) (by omega) p hp
theorem actOf_envOf {n : Nat} (l : List Value) (h : l.length ≤ n) : actOf n (envOf l 0) = ⟨⟨l ++ List.replicate (n - l.length) undef⟩, []⟩ := by
  unfold actOf
  simp only [Act.mk.injEq, and_true, Array.mk.injEq]
  apply List.ext_getElem?
  intro i
  rw [lkAll_get]
  have := envOf_lk l 0 i
  simp only [Nat.zero_add] at this ⊢
  rw [this, List.getElem?_append]
  by_cases hi : i < n
  · rw [if_pos hi]
    by_cases hl : i < l.length
    · simp [hl]
    · have h2 : i - l.length < n - l.length := by omega
      rw [if_neg hl, List.getElem?_replicate, if_pos h2]; simp [Nat.not_lt.1 hl]
  · rw [if_neg hi, if_neg (by omega), List.getElem?_replicate, if_neg (by omega)]
/-- A loop, gone round once more. -/
theorem LpE.unroll {ro : Option Nat} {P : Program} (hm : P.follows .mixedOrders = true) {n : Nat} {c : Code} (hok : codeOkE n c = true) {Q : Exit → Env → World → Prop} {l : List Value} {w : World} (hl : l.length = n)
    (h : vcE ro P n c (ThenE (fun e w => LpE ro P n c Q (lkAll e n 0) w) Q) (envOf l 0) w) : LpE ro P n c Q l w := by
  have e : (⟨⟨l⟩, []⟩ : Act) = actOf n (envOf l 0) := by
    rw [actOf_envOf l (by omega), hl]; simp
  unfold LpE
  rw [e]
  refine Lp.unroll hm (codeOkE_ok hok) (vcE_sound c hok ?_ _ w (envOf_keys l 0 (by omega)) h)
  intro ex e w hK h
  cases ex <;> first | exact h | exact ⟨e, rfl, hK, h⟩

theorem fn_of_eqE {P : Program} (hm : P.follows .mixedOrders = true) {f : FuncId} {fn : Func} {args : List Value} {w : World} {K : Value → World → Prop} {V : Prop}
    (hf : P.funcs[f]? = some fn) (hb : fn.body.isSome = true) (hn : (fn.name == "runtime.NumGoroutine") = false) (hok : (codeOkE fn.ntmps (bodyOf fn) && Nat.ble args.length fn.ntmps) = true)
    (heq : vcE none P fn.ntmps (bodyOf fn) (retE P fn.results.toList K) (envOf args 0) w = V) (h : V) : Fc P f args.toArray w K := by
  simp only [Bool.and_eq_true] at hok
  have hle := Nat.le_of_ble_eq_true hok.2
  refine fn_of_eq hm hf hb hn (codeOkE_ok hok.1) rfl ?_
  rw [← actOf_envOf args hle]
  refine vcE_sound _ hok.1 (Q := retE P fn.results.toList K) ?_ _ _ (envOf_keys args 0 (by omega)) (heq ▸ h)
  intro ex e w hK h
  cases ex <;> first | exact h | exact resE_resV hK h

/-! ### Where a loop stands in a function -/
def ctxE (ro : Option Nat) (P : Program) (n : Nat) : List Nat → Code → (Exit → Env → World → Prop) → Code × (Exit → Env → World → Prop)
  | [], c, Q => (c, Q)
  | i :: p, .seq x y, Q => match i with | 0 => ctxE ro P n p x (ThenE (fun e w => vcE ro P n y Q e w) Q) | _ => ctxE ro P n p y Q
  | i :: p, .cond _ x y, Q => match i with | 0 => ctxE ro P n p x Q | _ => ctxE ro P n p y Q
  | _ :: p, .block id c, Q => ctxE ro P n p c (BlockE id Q)
  | _ :: p, .scope c, Q => ctxE ro P n p c (ScopeE Q)
  | _ :: p, .loop c, Q => ctxE ro P n p c (ThenE (fun e w => LpE ro P n c Q (lkAll e n 0) w) Q)
  | _ :: _, c, Q => (c, Q)
def LpAtE (P : Program) (fn : Func) (path : List Nat) (K : Value → World → Prop) (l : List Value) (w : World) : Prop :=
  match ctxE none P fn.ntmps path (bodyOf fn) (retE P fn.results.toList K) with
  | (.loop c, Q) => LpE none P fn.ntmps c Q l w
  | _ => False
def roundVE (P : Program) (fn : Func) (path : List Nat) (K : Value → World → Prop) (e : Env) (w : World) : Prop :=
  match ctxE none P fn.ntmps path (bodyOf fn) (retE P fn.results.toList K) with
  | (.loop c, Q) => vcE none P fn.ntmps c (ThenE (fun e w => LpE none P fn.ntmps c Q (lkAll e fn.ntmps 0) w) Q) e w
  | _ => False
theorem ctxE_fst {ro : Option Nat} {P : Program} {n : Nat} : ∀ (p : List Nat) (c : Code) (Q : Exit → Env → World → Prop), (ctxE ro P n p c Q).1 = subc p c
  | [], c, Q => by simp [ctxE, subc]
  | i :: p, c, Q => by
    cases c <;> cases i <;> simp only [ctxE, subc] <;> first | rfl | exact ctxE_fst p _ _
def okAtE (fn : Func) (path : List Nat) (l : List Value) : Bool := match subc path (bodyOf fn) with | .loop c => codeOkE fn.ntmps c && Nat.beq l.length fn.ntmps | _ => false
theorem lpAt_roundE {P : Program} (hm : P.follows .mixedOrders = true) {fn : Func} {path : List Nat} {K : Value → World → Prop} {l : List Value} (e : Env) {w : World} {V : Prop}
    (he : envOf l 0 = e) (hok : okAtE fn path l = true) (heq : roundVE P fn path K e w = V) (h : V) : LpAtE P fn path K l w := by
  rw [← heq] at h
  unfold roundVE at h
  unfold LpAtE
  have hf := ctxE_fst (ro := none) (P := P) (n := fn.ntmps) path (bodyOf fn) (retE P fn.results.toList K)
  unfold okAtE at hok
  rw [← hf] at hok
  subst he
  generalize ctxE none P fn.ntmps path (bodyOf fn) (retE P fn.results.toList K) = x at *
  obtain ⟨c, Q⟩ := x
  cases c <;> simp only at h hok ⊢ <;> first | exact h | skip
  simp only [Bool.and_eq_true] at hok
  exact LpE.unroll hm hok.1 (Nat.eq_of_beq_eq_true hok.2) h
end Go.Proofs.YthdaccndnfgeeaaGreatDoor.CM
