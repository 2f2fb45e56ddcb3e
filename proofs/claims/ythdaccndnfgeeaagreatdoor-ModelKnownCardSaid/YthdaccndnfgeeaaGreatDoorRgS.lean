/- A region whose order is open: one allocation may float. No program in sight. -/
import Derived.Test.YthdaccndnfgeeaaGreatDoorCdS
namespace Go.Proofs.YthdaccndnfgeeaaGreatDoor.CM
open Go
section
variable {P : Program} {G : Nat → Option (List V)} {B : Nat} {w0 : World} {n : Nat} {call : Cl}

/-! ### Apart -/
theorem vcOpR_congr {o : Oper} {f g : Operand → Value} {w : World} {K : Value → World → Prop} (hs : ∀ cs b, o.op ≠ .select cs b) (h : ∀ y ∈ o.op.operands, f y = g y) : vcOpR P o f w K = vcOpR P o g w K := by
  have e : semR f o = semR g o := by rw [semR_eq, semR_eq]; exact execOp_congr o hs h
  unfold vcOpR
  rw [e]
  cases ho : o.op <;> rw [ho] at h <;> (try simp only) <;> try rfl
  case move x => rw [h x (by simp [Op.operands])]
  case assign x => rw [h x (by simp [Op.operands])]
  case call c =>
    obtain ⟨callee, args, ts⟩ := c
    cases callee <;> try rfl
    case value f' =>
      cases f' <;> try rfl
      case func fn =>
        have : mapV f args.toList = mapV g args.toList := by
          rw [mapV_eq, mapV_eq]
          apply List.map_congr_left
          intro x hx
          exact h x (by simp only [Op.operands, Call.operands]; simp; right; simpa using hx)
        simp only [this]
theorem evA_put {a : Act} {d : Option Tmp} {x : Value} {ops : Array Oper} {o : Oper} (h : ∀ t, d = some t → t ∉ o.looksAt ops) : ∀ y ∈ o.op.operands, evA (putA a d x) y = evA a y := fun y hy => by
  rw [putA_eq, evA_eq, evA_eq]
  exact Act.eval_put fun t ht hyt => h t ht (by
    subst hyt
    exact List.mem_append_left _ (List.mem_filterMap.2 ⟨.tmp t, by simpa using hy, rfl⟩))
theorem vcOp_put {a : Act} {d : Option Tmp} {x : Value} {ops : Array Oper} {o : Oper} {w : World} {K : Value → World → Prop} (hs : ∀ cs b, o.op ≠ .select cs b) (h : ∀ t, d = some t → t ∉ o.looksAt ops) : vcOp P o (putA a d x) w K = vcOp P o a w K :=
  vcOpR_congr hs (evA_put h)
theorem semR_put {a : Act} {d : Option Tmp} {x : Value} {ops : Array Oper} {o : Oper} (hs : ∀ cs b, o.op ≠ .select cs b) (h : ∀ t, d = some t → t ∉ o.looksAt ops) : semR (evA (putA a d x)) o = semR (evA a) o := by
  rw [semR_eq, semR_eq]; exact execOp_congr o hs (evA_put h)
theorem slot_put {a : Act} {d : Option Tmp} {x : Value} {ops : Array Oper} {o : Oper} {j : Nat} {want : Bool} (hg : o.guard = some (j, want)) (h : ∀ t, d = some t → t ∉ o.looksAt ops) : slotB ops.toList j (putA a d x) = slotB ops.toList j a := by
  rw [slotB_slotOf, slotB_slotOf]
  unfold slotOf
  cases ht : (ops[j]?).bind (·.dst) with
  | none => rfl
  | some t =>
    simp only
    cases d with
    | none => rfl
    | some d =>
      have hne : d ≠ t := fun e => h d rfl (by
        subst e
        unfold Oper.looksAt
        rw [hg]
        apply List.mem_append_right
        simp only [ht]
        simp)
      rw [putA_eq]
      simp only [nthV_eq, Act.put]
      simp [List.getD_eq_getElem?_getD, List.getElem?_set_ne hne]
theorem putA_comm {a : Act} {d e : Option Tmp} {x y : Value} (h : ∀ t, d = some t → e ≠ some t) : putA (putA a d x) e y = putA (putA a e y) d x := by
  rw [putA_eq, putA_eq, putA_eq, putA_eq]
  exact Act.put_comm a x y h

/-! ### What may come -/
theorem mem_readyB {m : Nat} : ∀ {l : List Nat} {k i : Nat}, i ∈ readyB m l k ↔ ∃ j e, i = k + j ∧ l[j]? = some e ∧ m.testBit i = false ∧ Nat.beq (m &&& e) e = true
  | [], k, i => by simp [readyB]
  | e :: l, k, i => by
    have ih := mem_readyB (m := m) (l := l) (k := k + 1) (i := i)
    have key : i ∈ readyB m (e :: l) k ↔ (i = k ∧ m.testBit k = false ∧ Nat.beq (m &&& e) e = true) ∨ i ∈ readyB m l (k + 1) := by
      simp only [readyB]
      cases h1 : m.testBit k <;> cases h2 : Nat.beq (m &&& e) e <;> simp
    rw [key, ih]
    constructor
    · rintro (⟨rfl, h1, h2⟩ | ⟨j, e', rfl, h1, h2, h3⟩)
      · exact ⟨0, e, by omega, rfl, h1, h2⟩
      · exact ⟨j + 1, e', by omega, by simpa using h1, h2, h3⟩
    · rintro ⟨j, e', rfl, h1, h2, h3⟩
      cases j with
      | zero => simp at h1; subst h1; exact .inl ⟨by omega, h2, h3⟩
      | succ j => exact .inr ⟨j, e', by omega, by simpa using h1, h2, h3⟩
theorem land_mono {m e x : Nat} (h : Nat.beq (m &&& e) e = true) : Nat.beq ((m ||| x) &&& e) e = true := by
  have h := Nat.eq_of_beq_eq_true h
  have : (m ||| x) &&& e = e := by
    apply Nat.eq_of_testBit_eq
    intro i
    have hi : (m &&& e).testBit i = e.testBit i := by rw [h]
    simp only [Nat.testBit_and, Nat.testBit_or] at hi ⊢
    cases he : e.testBit i <;> simp [he] at hi ⊢
    simp [hi]
  rw [this]; exact Nat.beq_refl _
theorem ready_more {m i f : Nat} {em : List Nat} (hf : f ∈ readyB m em 0) (hne : f ≠ i) : f ∈ readyB (m ||| 2 ^ i) em 0 := by
  obtain ⟨j, e, h1, h2, h3, h4⟩ := mem_readyB.1 hf
  refine mem_readyB.2 ⟨j, e, h1, h2, ?_, land_mono h4⟩
  rw [Nat.testBit_or, h3, Nat.testBit_two_pow_of_ne (Ne.symm hne)]; rfl
theorem sameL_eq : ∀ {l m : List Nat}, sameL l m = true → l = m
  | [], [], _ => rfl
  | [], _ :: _, h => by cases h
  | _ :: _, [], h => by cases h
  | i :: l, j :: m, h => by
    simp only [sameL, Bool.and_eq_true] at h
    rw [eqN h.1, sameL_eq h.2]
theorem mem_without {f i : Nat} : ∀ {l : List Nat}, i ∈ without f l ↔ i ∈ l ∧ i ≠ f
  | [] => by simp [without]
  | j :: l => by
    have ih := mem_without (f := f) (i := i) (l := l)
    unfold without
    cases hb : Nat.beq j f with
    | true =>
      have := eqN hb
      subst this
      simp only [ih, List.mem_cons]
      constructor
      · rintro ⟨h1, h2⟩; exact ⟨.inr h1, h2⟩
      · rintro ⟨rfl | h1, h2⟩
        · exact absurd rfl h2
        · exact ⟨h1, h2⟩
    | false =>
      simp only [List.mem_cons, ih]
      constructor
      · rintro (rfl | ⟨h1, h2⟩)
        · exact ⟨.inl rfl, beq_ne hb⟩
        · exact ⟨.inr h1, h2⟩
      · rintro ⟨rfl | h1, h2⟩
        · exact .inl rfl
        · exact .inr ⟨h1, h2⟩
theorem findB_without {ops : List Oper} {f : Nat} (hq : quietAt P ops f = false) : ∀ (l : List Nat), findB P ops (without f l) = findB P ops l
  | [] => rfl
  | j :: l => by
    unfold without
    cases hb : Nat.beq j f with
    | true => have := eqN hb; subst this; simp only [findB, hq]; exact findB_without hq l
    | false => simp only [findB]; rw [findB_without hq l]
theorem fresh_notquiet {ops : List Oper} {f : Nat} (h : freshAt ops f = true) : quietAt P ops f = false ∧ ∃ q, operAt ops f = some q ∧ q.guard = none ∧ freshOp q.op = true := by
  unfold freshAt at h
  rw [quietAt_eq]
  rw [operAt_eq] at *
  split at h
  · rename_i o ho
    split at h
    · rename_i hg
      refine ⟨?_, o, ho, hg, h⟩
      rw [ho]
      simp only [Option.any_some, quietOp]
      cases hop : o.op <;> rw [hop] at h <;> first | rfl | cases h
    · cases h
  · cases h
/-- Who may come at one time is apart. -/
theorem apart_ready {ops : Array Oper} (hf : regFree ops = true) {m i f : Nat} {oi q : Oper} (hi : i ∈ readyB m (emasks ops.toList) 0) (hff : f ∈ readyB m (emasks ops.toList) 0) (hne : i ≠ f) (hoi : operAt ops.toList i = some oi) (hq : operAt ops.toList f = some q) :
    oi.apart ops q = true ∧ q.apart ops oi = true := by
  have em : ∀ (l : List Oper) (j : Nat) (e : Nat), (emasks l)[j]? = some e → ∃ o, l[j]? = some o ∧ e = emask o := by
    intro l
    induction l with
    | nil => intro j e h; simp [emasks] at h
    | cons o l ih =>
      intro j e h
      cases j with
      | zero => simp only [emasks, List.getElem?_cons_zero, Option.some.injEq] at h; exact ⟨_, List.getElem?_cons_zero, h.symm⟩
      | succ j => simp [emasks] at h; simpa using ih j e h
  have noedge : ∀ {i f : Nat} {oi : Oper}, i ∈ readyB m (emasks ops.toList) 0 → f ∈ readyB m (emasks ops.toList) 0 → operAt ops.toList i = some oi → ∀ e ∈ oi.after, Region.binds .any e = true → e.on ≠ f := fun {i f oi} hi hf hoi e he hb hef => by
    obtain ⟨j, e', h1, h2, h3, h4⟩ := mem_readyB.1 hi
    have : i = j := by omega
    subst this
    obtain ⟨o', ho, rfl⟩ := em _ _ _ h2
    rw [operAt_eq, ho] at hoi
    have hoo : o' = oi := Option.some.inj hoi
    subst hoo
    have := (emask_spec o' m).1 h4 e he hb
    rw [hef] at this
    obtain ⟨_, _, _, _, h5, _⟩ := mem_readyB.1 hf
    rw [h5] at this; cases this
  have hoi' : ops[i]? = some oi := by rw [operAt_eq] at hoi; simpa using hoi
  have hq' : ops[f]? = some q := by rw [operAt_eq] at hq; simpa using hq
  simp only [regFree, Bool.and_eq_true, List.all_eq_true, List.mem_range] at hf
  obtain ⟨hlti, _⟩ := Array.getElem?_eq_some_iff.1 hoi'
  obtain ⟨hltf, _⟩ := Array.getElem?_eq_some_iff.1 hq'
  have go : ∀ {i f : Nat} {oi q : Oper}, i < ops.size → f < ops.size → ops[i]? = some oi → ops[f]? = some q → i ≠ f → (∀ e ∈ oi.after, Region.binds .any e = true → e.on ≠ f) → (∀ e ∈ q.after, Region.binds .any e = true → e.on ≠ i) → oi.apart ops q = true := fun {i f oi q} h1 h2 h3 h4 h5 h6 h7 => by
    have := hf.2 i h1 f h2
    simp only [h3, h4, Bool.or_eq_true, beq_iff_eq, Array.any_eq_true', Bool.and_eq_true] at this
    rcases this with h | (⟨e, he, hb, hx⟩ | ⟨e, he, hb, hx⟩) | h
    · exact absurd h h5
    · exact absurd hx (h7 e he hb)
    · exact absurd hx (h6 e he hb)
    · exact h
  exact ⟨go hlti hltf hoi' hq' hne (noedge hi hff hoi) (noedge hff hi hq), go hltf hlti hq' hoi' (Ne.symm hne) (noedge hff hi hq) (noedge hi hff hoi)⟩
theorem noSel {ops : Array Oper} (hf : regFree ops = true) {i : Nat} {o : Oper} (ho : operAt ops.toList i = some o) : ∀ cs b, o.op ≠ .select cs b := fun cs b hc => by
  rw [operAt_eq] at ho
  have := regFree_nd hf i o (by simpa using ho)
  simp [noDefer, hc] at this
end
end Go.Proofs.YthdaccndnfgeeaaGreatDoor.CM
