/- A region whose order is open: the evaluator's run is sound. No program in sight. -/
import Derived.Test.YthdaccndnfgeeaaGreatDoorRgS
namespace Go.Proofs.YthdaccndnfgeeaaGreatDoor.CM
open Go
section
variable {P : Program} {G : Nat → Option (List V)} {B : Nat} {w0 : World} {n : Nat} {call : Cl}
/-- What a floating allocation comes to, whenever it comes. -/
structure Frs (P : Program) (call : Cl) (ρ : Vl) (rg : Rg) (q : Oper) (k : Bk) (mk : Bp → V) (g : Nat) (obj : Obj) : Prop where
  ex : ∀ h2, exR P call rg q h2 = some (mk h2.nx, newB h2 k)
  rb : RB ρ g k (some obj)
theorem fresh_run {q : Oper} {ρ : Vl} {rg : Rg} {a : Act} {h : Hp} (hq : freshOp q.op = true) (R : RR ρ n rg a) (hx : someR (exR P call rg q h) = true) :
    ∃ k mk g obj, Frs P call ρ rg q k mk g obj ∧ ∀ (w : World) (K : Value → World → Prop), (∀ x, (∀ ρ' b, Ext0 ρ ρ' → ρ' b = some (sz w, g) → RV ρ' (mk b) x) → K x (w.alloc obj)) → vcOp P q a w K := by
  cases hop : q.op <;> rw [hop] at hq <;> first | (cases hq; done) | skip
  case alloc T =>
    have hx : someR (with1 (zeroV P T) (fun v => newV v h)) = true := by
      have : exR P call rg q h = with1 (zeroV P T) (fun v => newV v h) := by simp only [exR, exO, hop]; rfl
      rw [← this]; exact hx
    cases hz : zeroV P T with
    | none => rw [hz] at hx; cases hx
    | some v =>
      obtain ⟨z, h1, h2, h3, _⟩ := zeroV_zc hz
      refine ⟨.cells [v] (lenL (celV v)), fun b => .ptr b 0, 0, cl (cells z) T, ⟨fun h2 => ?_, one_cells (h1 ρ) h2 T 0⟩, fun w K hK => ?_⟩
      · simp only [exR, exO, hop, sAlloc, hz]; rfl
      · refine vc_loud (by rw [hop]; rfl) (by rw [hop]; rfl) (by simp [hop]) ?_
        have e : semR (evA a) q = al T := by simp only [semR, hop, execOp]; rfl
        rw [e, Nx_al, h3, AlK_some]
        exact hK _ fun ρ' b _ hb => .ptr _ _ _ 0 hb
  case buildSlice T k ps =>
    have hxe : ∀ h, exR P call rg q h = withP (partsV rg ps.toList) (fun ps => bslK (elE P T) k ps h) := fun h => by simp only [exR, exO, hop]; rfl
    rw [hxe] at hx
    cases hp : partsV rg ps.toList with
    | none => rw [hp] at hx; cases hx
    | some qs =>
      rw [hp] at hx
      have hx : someR (bslK (elE P T) k qs h) = true := hx
      cases hb : bslK (elE P T) k qs h with
      | none => rw [hb] at hx; cases hx
      | some p =>
        obtain ⟨v, h'⟩ := p
        obtain ⟨es, z, xs, el, rfl, rfl, h1, h2, h3⟩ := bsl_run (partsV_sound R hp) hb
        refine ⟨.cells es z, fun b => .sl b 0 k k, 0, cl xs el, ⟨fun h2 => ?_, h1⟩, fun w K hK => ?_⟩
        · rw [hxe, hp]; exact h3 h2
        · refine vc_loud (by rw [hop]; rfl) (by rw [hop]; rfl) (by simp [hop]) ?_
          have e : semR (evA a) q = bsl T k ⟨mapP (evA a) ps.toList⟩ := by simp only [semR, hop]; rfl
          rw [e]
          exact Nx_val (h2 w) (hK _ fun ρ' b _ hb => .sl _ _ _ _ _ 0 hb)
theorem opV_putD {rg : Rg} {d : Option Tmp} {v : V} {x : Operand} (h : ∀ t, d = some t → x ≠ .tmp t) : opV (putD rg d v) x = opV rg x := by
  cases d with
  | none => rfl
  | some d =>
    cases x with
    | tmp t =>
      have hne : d ≠ t := fun e => h d rfl (by rw [e])
      show some (match (rg.t.put (bp d) v).get (bp t) with | some v => v | none => undV) = _
      rw [Tr.get_put, if_neg (fun e => hne (bp_inj e))]
      rfl
    | _ => rfl
theorem partsV_putD {rg : Rg} {d : Option Tmp} {v : V} : ∀ {ps : List (Nat × Operand)}, (∀ p ∈ ps, ∀ t, d = some t → p.2 ≠ .tmp t) → partsV (putD rg d v) ps = partsV rg ps
  | [], _ => rfl
  | p :: ps, h => by
    show (match opV (putD rg d v) p.2 with | some v' => (match partsV (putD rg d v) ps with | some vs => some ((p.1, v') :: vs) | none => none) | none => none) = _
    rw [opV_putD (h p (List.mem_cons_self ..)), partsV_putD fun q hq => h q (List.mem_cons_of_mem _ hq)]
    rfl
theorem Frs.put {ρ ρ' : Vl} {rg : Rg} {q : Oper} {k : Bk} {mk : Bp → V} {g : Nat} {obj : Obj} (F : Frs P call ρ rg q k mk g obj) (hq : freshOp q.op = true) (e : Ext0 ρ ρ') {ops : Array Oper} {d : Option Tmp} {v : V} (h : ∀ t, d = some t → t ∉ q.looksAt ops) :
    Frs P call ρ' (putD rg d v) q k mk g obj := by
  refine ⟨fun h2 => ?_, F.rb.mono0 e⟩
  rw [← F.ex h2]
  cases hop : q.op <;> rw [hop] at hq <;> first | (cases hq; done) | skip
  case alloc T => simp only [exR, exO, hop]; rfl
  case buildSlice T k ps =>
    have hxe : ∀ rg, exR P call rg q h2 = withP (partsV rg ps.toList) (fun ps => bslK (elE P T) k ps h2) := fun rg => by simp only [exR, exO, hop]; rfl
    rw [hxe, hxe, partsV_putD]
    intro p hp t ht he
    refine h t ht ?_
    unfold Oper.looksAt
    apply List.mem_append_left
    rw [hop]
    refine List.mem_filterMap.2 ⟨.tmp t, ?_, rfl⟩
    simp only [Op.operands, List.toList_toArray, List.mem_map]
    exact ⟨p, by simpa using hp, he⟩
theorem cv_read {o : Oper} {ρ : Vl} {rg : Rg} {a : Act} {h h1 : Hp} {w : World} {v : V} (hp : cvPure P o.op = true) (H : RH B w0 ρ h w) (R : RR ρ n rg a) (hx : exR P call rg o h = some (v, h1)) : Rd P (semR (evA a) o) w fun x => PV B w0 ρ v h1 x w := by
  cases hop : o.op <;> rw [hop] at hp <;> first | (cases hp; done) | skip
  case convert s d x =>
    have e : semR (evA a) o = cvt s d (evA a x) := by simp only [semR, hop, execOp]; rfl
    rw [e]
    simp only [exR, exO, hop] at hx
    obtain ⟨u, hu, he1⟩ := with1_some hx
    have R1 := opV_sound R hu
    simp only [cvPure] at hp
    split at hp
    · rename_i k1 k2 hs hd
      have hc : cvT P s d = .int k2 := by unfold cvT; rw [hs, hd]
      rw [hc] at he1
      unfold convV at he1
      simp only at he1
      split at he1
      · rename_i k0 i0
        obtain ⟨rfl, rfl⟩ := some_pair he1
        rw [rv_int R1, cvtI_eq]
        refine rdev_val (x := .int k2 (k2.wrap i0)) ?_ (.same H (.int _ _))
        simp [convert, rdev_bind, rdev_underlying, hs, hd, Conv.intToInt, rdev_pure]
      · cases he1
    · cases hp
theorem read_ex {o : Oper} {ρ : Vl} {rg : Rg} {a : Act} {h h1 : Hp} {w : World} {v : V} (hc : CallOk P rg.g B w0 call) (hp : pureOp o.op = false) (hr : (readOp o.op || cvPure P o.op) = true) (H : RH B w0 ρ h w) (R : RR ρ n rg a) (hx : exR P call rg o h = some (v, h1)) :
    Rd P (semR (evA a) o) w fun x => PV B w0 ρ v h1 x w := by
  cases hro : readOp o.op with
  | true => exact read_vc hp hro (ex_all hc H R hx)
  | false => rw [hro] at hr; exact cv_read hr H R hx

/-! ### What has come ahead of the evaluator -/
/-- Nothing, or the one that floats. -/
inductive Ov where
  | no
  | yes (f : Nat) (q : Oper) (x : Value) (r : Nat)
def Ov.mask : Ov → Nat → Nat
  | .no, m => m
  | .yes f _ _ _, m => m ||| 2 ^ f
def Ov.act : Ov → Act → Act
  | .no, a => a
  | .yes _ q x _, a => putA a q.dst x
def Ov.apart (ops : Array Oper) (o : Oper) : Ov → Prop
  | .no => True
  | .yes _ q _ _ => (∀ t, q.dst = some t → t ∉ o.looksAt ops) ∧ (∀ t, q.dst = some t → o.dst ≠ some t)
/-- The base of names, without what is kept for the one that floats. -/
def Ov.base (ρ : Vl) : Ov → Vl
  | .no => ρ
  | .yes _ _ _ r => unprotect ρ r
theorem Ov.base_ext {ρ ρ' : Vl} {ov : Ov} (e : Ext ρ ρ') : Ext (ov.base ρ) (ov.base ρ') := by
  cases ov with
  | no => exact e
  | yes f q x r => exact ⟨⟨e.1.1, by show (unprotect ρ' r).K = (unprotect ρ r).K; unfold unprotect; simp only; rw [e.1.2]⟩, e.2⟩
variable {ops : Array Oper} {ov : Ov} {o : Oper} {a : Act}
theorem Ov.sem (hs : ∀ cs b, o.op ≠ .select cs b) (h : ov.apart ops o) : semR (evA (ov.act a)) o = semR (evA a) o := by
  cases ov with
  | no => rfl
  | yes f q x r => exact semR_put hs h.1
theorem Ov.vc (hs : ∀ cs b, o.op ≠ .select cs b) (h : ov.apart ops o) {w : World} {K : Value → World → Prop} : vcOp P o (ov.act a) w K = vcOp P o a w K := by
  cases ov with
  | no => rfl
  | yes f q x r => exact vcOp_put hs h.1
theorem Ov.slot {j : Nat} {want : Bool} (hg : o.guard = some (j, want)) (h : ov.apart ops o) : slotB ops.toList j (ov.act a) = slotB ops.toList j a := by
  cases ov with
  | no => rfl
  | yes f q x r => exact slot_put hg h.1
theorem Ov.comm (h : ov.apart ops o) {v : Value} : putA (ov.act a) o.dst v = ov.act (putA a o.dst v) := by
  cases ov with
  | no => rfl
  | yes f q x r => exact putA_comm h.2
theorem Ov.ev {x : Operand} (hop : o.op = .move x ∨ o.op = .assign x) (h : ov.apart ops o) : evA (ov.act a) x = evA a x := by
  cases ov with
  | no => rfl
  | yes f q y r => exact evA_put h.1 x (by rcases hop with hop | hop <;> rw [hop] <;> simp [Op.operands])
theorem Ov.mask_comm (ov : Ov) (m i : Nat) : ov.mask m ||| 2 ^ i = ov.mask (m ||| 2 ^ i) := by
  cases ov with
  | no => rfl
  | yes f q x r =>
    show m ||| 2 ^ f ||| 2 ^ i = m ||| 2 ^ i ||| 2 ^ f
    rw [Nat.or_assoc, Nat.or_comm (2 ^ f), ← Nat.or_assoc]

/-- A quiet operation. -/
theorem quiet_step (hc : CallOk P G B w0 call) (hcm : MonoF call) (hfree : regFree ops = true) (hd : ∀ o ∈ ops.toList, ∀ d, o.dst = some d → d < n) {tb : List Nat} {fv mv i : Nat} {asks : Asks} {Q : Act → World → Prop} {a : Act} {w : World} {ρ : Vl} {pend : Pnd} {rg : Rg} {h : Hp} {x : Rg × Hp}
    {k : Pnd → Rg → Hp → Rs} (hi : findB P ops.toList (readyB mv (emasks ops.toList) 0) = some i) (ho : operAt ops.toList i = some o) (hap : ov.apart ops o)
    (e : quietR P call ops.toList o i pend k rg h = some x) (hg : rg.g = G) (H : RH B w0 ρ h w) (R : RR ρ n rg a) (hP : PR B w0 ρ h pend asks)
    (cont : ∀ pend' asks' v (rg' : Rg) h' ρ' a', rg' = putD rg o.dst v → k pend' rg' h' = some x → Ext ρ ρ' → RH B w0 ρ' h' w → RR ρ' n rg' a' → PR B w0 ρ' h' pend' asks' → vcAnyB P ops.toList (emasks ops.toList) tb Q fv (mv ||| 2 ^ i) asks' (ov.act a') w) :
    vcAnyB P ops.toList (emasks ops.toList) tb Q (fv + 1) mv asks (ov.act a) w := by
  obtain ⟨o', ho', hqo⟩ := quietAt_some (findB_quiet hi)
  rw [ho] at ho'; cases ho'
  have hs := noSel hfree ho
  have hmem : o ∈ ops.toList := by rw [operAt_eq] at ho; exact List.mem_of_getElem? ho
  have hdo := hd o hmem
  simp only [vcAnyB, hi, ho]
  have e := quietR_some e
  have hg' : ∀ v, (putD rg o.dst v).g = G := fun v => by rw [putD_g]; exact hg
  rw [Ov.sem (ov := ov) hs hap]
  have mv' : ∀ y, (o.op = .move y ∨ o.op = .assign y) → ∀ v h1, exR P call rg o h = some (v, h1) → k (addP P o i (fun h' => chkW rg o h v h' (exR P call rg o h')) pend) (putD rg o.dst v) h1 = some x → vcAnyB P ops.toList (emasks ops.toList) tb Q fv (mv ||| 2 ^ i) asks (putA (ov.act a) o.dst (evA (ov.act a) y)) w := fun y hy v h1 hx hk => by
    have hadd : addP P o i (fun h' => chkW rg o h v h' (exR P call rg o h')) pend = pend := by
      unfold addP; rcases hy with hy | hy <;> rw [hy] <;> rfl
    obtain ⟨hu, hh⟩ := move_ex hy hx
    subst hh
    rw [hadd] at hk
    rw [Ov.ev hy hap, Ov.comm hap]
    exact cont pend asks v _ _ ρ _ rfl hk (.refl _) H (R.put hdo (opV_sound R hu)) hP
  have pu : pureOp o.op = true → (∀ x, o.op ≠ .move x) → (∀ x, o.op ≠ .assign x) → ∀ v h1, exR P call rg o h = some (v, h1) → k (addP P o i (fun h' => chkW rg o h v h' (exR P call rg o h')) pend) (putD rg o.dst v) h1 = some x → Pu P (semR (evA a) o) fun v => vcAnyB P ops.toList (emasks ops.toList) tb Q fv (mv ||| 2 ^ i) asks (putA (ov.act a) o.dst v) w := fun hp hm ha v h1 hx hk => by
    have hadd : addP P o i (fun h' => chkW rg o h v h' (exR P call rg o h')) pend = pend := by
      have : (readOp o.op || cvPure P o.op) = false := by
        cases hop : o.op <;> rw [hop] at hp <;> first
          | rfl
          | (cases hp; done)
          | (rename_i c; obtain ⟨callee, args, ts⟩ := c; cases callee <;> first
              | rfl
              | (rename_i b; cases b <;> first | rfl | (cases hp; done)))
      unfold addP; rw [this]
    rw [hadd] at hk
    refine (pure_vc hp hm ha (ex_all (hg ▸ hc) H R hx)).mono fun y hy => ?_
    obtain ⟨ρ', e1, H', hy⟩ := hy
    rw [Ov.comm hap]
    exact cont pend asks v _ _ ρ' _ rfl hk e1 H' ((R.mono e1).put hdo hy) (hP.mono e1.to0 (exR_mono hcm rg o h v h1 hx H.wf).2)
  have rd : pureOp o.op = false → (readOp o.op || cvPure P o.op) = true → ∀ (g : Value → World → Prop) v h1, (∀ v w', Stb P (semR (evA a) o) v w' → g v w') → exR P call rg o h = some (v, h1) → k (addP P o i (fun h' => chkW rg o h v h' (exR P call rg o h')) pend) (putD rg o.dst v) h1 = some x → Rd P (semR (evA a) o) w fun v => vcAnyB P ops.toList (emasks ops.toList) tb Q fv (mv ||| 2 ^ i) ((i, fun w' => g v w') :: asks) (putA (ov.act a) o.dst v) w := fun hp hr g v h1 hgs hx hk => by
    have hadd : addP P o i (fun h' => chkW rg o h v h' (exR P call rg o h')) pend = (i, fun h' => chkW rg o h v h' (exR P call rg o h')) :: pend := by
      unfold addP; rw [hr]
    rw [hadd] at hk
    refine (read_ex (hg ▸ hc) hp hr H R hx).mono fun y hy => ?_
    obtain ⟨ρ', e1, H', hy⟩ := hy
    rw [Ov.comm hap]
    refine cont _ _ v _ _ ρ' _ rfl hk e1 H' ((R.mono e1).put hdo hy) ?_
    intro q hq
    rcases List.mem_cons.1 hq with rfl | hq
    · refine .inr ⟨_, List.mem_cons_self .., rfl, fun ρ1 h2 w1 e2 m2 H1 hch => hgs _ _ ?_⟩
      obtain ⟨v', h3, hx', hve⟩ := chkW_some hr ((exR_mono hcm rg o h v h1 hx H.wf).2.trans m2) hx hch
      obtain ⟨y', hy1, hy2⟩ := (read_ex (hg ▸ hc) hp hr H1 (R.mono0 (e1.to0.trans e2)) hx').out
      obtain ⟨ρ3, e3, _, hy3⟩ := hy2
      have := vEq_sound (e2.trans e3.to0) (e2.trans e3.to0) hy hy3 (.refl _) hve
      subst this
      exact hy1
    · exact (hP.mono e1.to0 (exR_mono hcm rg o h v h1 hx H.wf).2).more _ q hq
  have skip : ∀ (asks' : Asks), (∀ q ∈ asks', q ∈ asks ∨ ∀ w, q.2 w) → k pend (putD rg o.dst undV) h = some x → vcAnyB P ops.toList (emasks ops.toList) tb Q fv (mv ||| 2 ^ i) asks' (putA (ov.act a) o.dst undef) w := fun asks' ha hk => by
    rw [Ov.comm hap]
    exact cont pend asks' undV _ _ ρ _ rfl hk (.refl _) H (R.put hdo rv_undef) fun q hq => (ha q hq).elim (hP q) .inl
  have hq2 : pureOp o.op = false → (readOp o.op || cvPure P o.op) = true := fun hp => by
    unfold quietOp at hqo; rw [hp] at hqo; simpa using hqo
  cases hgd : o.guard with
  | none =>
    simp only
    rw [hgd] at e
    obtain ⟨_, v, h1, hx, hk⟩ := e.resolve_right (fun h => by cases h.1)
    split
    · rename_i y hop; exact mv' y (.inl hop) v h1 hx hk
    · rename_i y hop; exact mv' y (.inr hop) v h1 hx hk
    · rename_i hm ha
      split
      · rename_i hp; exact pu hp (fun y hy => hm y hy) (fun y hy => ha y hy) v h1 hx hk
      · rename_i hp
        have hp : pureOp o.op = false := by simpa using hp
        exact rd hp (hq2 hp) _ v h1 (fun _ _ h => h) hx hk
  | some gd =>
    obtain ⟨j, want⟩ := gd
    simp only
    rw [hgd] at e
    rw [Ov.slot hgd hap]
    have hsl : ∀ b, want? ops.toList rg (some (j, want)) = b → (b = true ↔ slotB ops.toList j a = .bool want) := fun b hb => by rw [← hb]; exact slotB_rv R ops.toList j want
    rcases e with ⟨hw, v, h1, hx, hk⟩ | ⟨hw, hk⟩
    · have hs := (hsl _ hw).1 rfl
      split
      · rename_i y hop; exact ⟨.inl ⟨hs, mv' y (.inl hop) v h1 hx hk⟩⟩
      · rename_i y hop; exact ⟨.inl ⟨hs, mv' y (.inr hop) v h1 hx hk⟩⟩
      · rename_i hm ha
        split
        · rename_i hp; exact ⟨.inl ⟨hs, pu hp (fun y hy => hm y hy) (fun y hy => ha y hy) v h1 hx hk⟩⟩
        · rename_i hp
          have hp : pureOp o.op = false := by simpa using hp
          exact ⟨.inl ⟨hs, rd hp (hq2 hp) _ v h1 (fun _ _ h _ => h) hx hk⟩⟩
    · have hs : slotB ops.toList j a ≠ .bool want := fun hs => by cases (hsl _ hw).2 hs
      split
      · rename_i y hop; exact ⟨.inr ⟨hs, skip asks (fun q hq => .inl hq) hk⟩⟩
      · rename_i y hop; exact ⟨.inr ⟨hs, skip asks (fun q hq => .inl hq) hk⟩⟩
      · split
        · exact ⟨.inr ⟨hs, skip asks (fun q hq => .inl hq) hk⟩⟩
        · refine ⟨.inr ⟨hs, skip _ (fun q hq => ?_) hk⟩⟩
          rcases List.mem_cons.1 hq with rfl | hq
          · exact .inr fun w h => absurd h hs
          · exact .inl hq
/-- A loud operation. -/
theorem loud_step (hc : CallOk P G B w0 call) (hcm : MonoF call) (hfree : regFree ops = true) (hd : ∀ o ∈ ops.toList, ∀ d, o.dst = some d → d < n) {tb : List Nat} {fv mv i : Nat} {asks : Asks} {Q : Act → World → Prop} {a : Act} {w : World} {ρ : Vl} {pend : Pnd} {rg : Rg} {h : Hp} {x : Rg × Hp}
    {k : Pnd → Rg → Hp → Rs} (ho : operAt ops.toList i = some o) (hap : ov.apart ops o)
    (e : stepR P call ops.toList o (loudK k pend) rg h = some x) (hg : rg.g = G) (H : RH B w0 ρ h w) (R : RR ρ n rg a) (hP : PR B w0 ρ h pend (keepB (natAt tb i) asks))
    (cont : ∀ pend' asks' v (rg' : Rg) h' ρ' a' w', rg' = putD rg o.dst v → k pend' rg' h' = some x → Ext ρ ρ' → RH B w0 ρ' h' w' → RR ρ' n rg' a' → PR B w0 ρ' h' pend' asks' → vcAnyB P ops.toList (emasks ops.toList) tb Q fv (mv ||| 2 ^ i) asks' (ov.act a') w') :
    (match o.guard with
      | none => vcOp P o (ov.act a) w fun v w' => stbs (keepB (natAt tb i) asks) w' (vcAnyB P ops.toList (emasks ops.toList) tb Q fv (mv ||| 2 ^ i) (keepB (natAt tb i) asks) (putA (ov.act a) o.dst v) w')
      | some (j, want) => Gd (slotB ops.toList j (ov.act a)) want (fun K => vcOp P o (ov.act a) w K) w fun v w' => stbs (keepB (natAt tb i) asks) w' (vcAnyB P ops.toList (emasks ops.toList) tb Q fv (mv ||| 2 ^ i) (keepB (natAt tb i) asks) (putA (ov.act a) o.dst v) w')) := by
  have hs := noSel hfree ho
  have hmem : o ∈ ops.toList := by rw [operAt_eq] at ho; exact List.mem_of_getElem? ho
  have hdo := hd o hmem
  have go : ∀ v h1, exR P call rg o h = some (v, h1) → loudK k pend (putD rg o.dst v) h1 = some x →
      vcOp P o (ov.act a) w fun v w' => stbs (keepB (natAt tb i) asks) w' (vcAnyB P ops.toList (emasks ops.toList) tb Q fv (mv ||| 2 ^ i) (keepB (natAt tb i) asks) (putA (ov.act a) o.dst v) w') := fun v h1 hx hk => by
    obtain ⟨ha, hk⟩ := loudK_some hk
    rw [Ov.vc hs hap]
    refine vcOp_mono (ex_all (hg ▸ hc) H R hx) fun y w' hy => ?_
    obtain ⟨ρ', e1, H', hy⟩ := hy
    have hP' := hP.mono e1.to0 (exR_mono hcm rg o h v h1 hx H.wf).2
    rw [Ov.comm hap]
    exact stbs_intro (cont _ _ v _ _ ρ' _ w' rfl hk e1 H' ((R.mono e1).put hdo hy) hP') (hP'.holds H' ha)
  have skip : loudK k pend (putD rg o.dst undV) h = some x →
      stbs (keepB (natAt tb i) asks) w (vcAnyB P ops.toList (emasks ops.toList) tb Q fv (mv ||| 2 ^ i) (keepB (natAt tb i) asks) (putA (ov.act a) o.dst undef) w) := fun hk => by
    obtain ⟨ha, hk⟩ := loudK_some hk
    have hP' := hP
    rw [Ov.comm hap]
    exact stbs_intro (cont _ _ undV _ _ ρ _ w rfl hk (.refl _) H (R.put hdo rv_undef) hP') (hP'.holds H ha)
  rcases stepR_some e with ⟨hw, v, h1, hx, hk⟩ | ⟨hw, hk⟩
  · cases hgd : o.guard with
    | none => exact go v h1 hx hk
    | some gd =>
      obtain ⟨j, want⟩ := gd
      rw [hgd] at hw
      simp only
      rw [Ov.slot hgd hap]
      exact ⟨.inl ⟨(slotB_rv R ops.toList j want).1 hw, go v h1 hx hk⟩⟩
  · cases hgd : o.guard with
    | none => rw [hgd] at hw; cases hw
    | some gd =>
      obtain ⟨j, want⟩ := gd
      rw [hgd] at hw
      simp only
      rw [Ov.slot hgd hap]
      refine ⟨.inr ⟨fun hs => ?_, skip hk⟩⟩
      have : wantS ops.toList rg j want = true := (slotB_rv R ops.toList j want).2 hs
      have hw : wantS ops.toList rg j want = false := hw
      rw [hw] at this; cases this
theorem stepR_cont {k : Pnd → Rg → Hp → Rs} {pend : Pnd} {rg : Rg} {h : Hp} {x : Rg × Hp} {opl : List Oper} (e : stepR P call opl o (loudK k pend) rg h = some x) : ∃ rg' h', k pend rg' h' = some x := by
  rcases stepR_some e with ⟨_, v, h1, _, hk⟩ | ⟨_, hk⟩
  · exact ⟨_, _, (loudK_some hk).2⟩
  · exact ⟨_, _, (loudK_some hk).2⟩
theorem quietR_cont {k : Pnd → Rg → Hp → Rs} {pend : Pnd} {i : Nat} {rg : Rg} {h : Hp} {x : Rg × Hp} {opl : List Oper} (e : quietR P call opl o i pend k rg h = some x) : ∃ pend' rg' h', k pend' rg' h' = some x := by
  rcases quietR_some e with ⟨_, v, h1, _, hk⟩ | ⟨_, hk⟩
  · exact ⟨_, _, _, hk⟩
  · exact ⟨_, _, _, hk⟩
theorem any0 {opl : List Oper} {em tb : List Nat} {m : Nat} {fl : Option Nat} {pend : Pnd} {rg : Rg} {h : Hp} {x : Rg × Hp} (e : anyR P call opl em tb 0 m fl pend rg h = some x) : readyB m em 0 = [] ∧ x = (rg, h) := by
  have e : Bool.rec none (some (rg, h)) (end0 em m) = some x := e
  unfold end0 at e
  split at e
  · rename_i hr
    have e : some (rg, h) = some x := e
    cases e
    exact ⟨hr, rfl⟩
  · cases e
theorem findB_mem {opl : List Oper} : ∀ {l : List Nat} {i : Nat}, findB P opl l = some i → i ∈ l
  | j :: l, i, h => by
    simp only [findB] at h
    split at h
    · cases h; exact List.mem_cons_self ..
    · exact List.mem_cons_of_mem _ (findB_mem h)
/-- What comes next, read off. -/
inductive Nx2 (P : Program) (opl : List Oper) (em : List Nat) (m : Nat) (fl : Option Nat) : Nxt → Prop
  | no : Nx2 P opl em m fl .no
  | quiet (i : Nat) (h : findB P opl (readyB m em 0) = some i) (hf : ∀ f, fl = some f → findB P opl (readyB (m ||| 2 ^ f) em 0) = some i) : Nx2 P opl em m fl (.quiet i)
  | done (hr : readyB m em 0 = []) (h : findB P opl (readyB m em 0) = none) : Nx2 P opl em m fl .done
  | loud (i : Nat) (hr : readyB m em 0 = [i]) (h : findB P opl (readyB m em 0) = none) : Nx2 P opl em m fl (.loud i)
  | two (r f : Nat) (hr : readyB m em 0 = [r, f] ∨ readyB m em 0 = [f, r]) (h : findB P opl (readyB m em 0) = none) (hne : r ≠ f) (hfl : fl = none ∨ fl = some f) (hf : readyB (m ||| 2 ^ f) em 0 = without f (readyB m em 0)) (hfr : freshAt opl f = true) : Nx2 P opl em m fl (.two r f)
theorem nextB_spec (opl : List Oper) (em : List Nat) (m : Nat) (fl : Option Nat) : Nx2 P opl em m fl (nextB P opl em m fl) := by
  have hfl : ∀ {fl : Option Nat}, flOk em m fl = true → ∀ f, fl = some f → readyB (m ||| 2 ^ f) em 0 = without f (readyB m em 0) := fun {fl} h f hf => by
    subst hf; exact sameL_eq h
  unfold nextB nextB'
  cases hF : findB P opl (readyB m em 0) with
  | some i =>
    simp only
    cases h0 : flQ P opl em m fl i with
    | true =>
      refine .quiet i hF fun f hf => ?_
      subst hf
      unfold flQ at h0
      simp only at h0
      split at h0
      · rename_i j hj; rw [hj, eqN h0]
      · cases h0
    | false => exact .no
  | none =>
    simp only
    match hr : readyB m em 0 with
    | [] => exact .done hr hF
    | [i] => exact .loud i hr hF
    | [i, j] =>
      simp only
      cases hx : pick2 opl i j fl with
      | no => exact .no
      | quiet i' =>
        exfalso
        unfold pick2 at hx
        repeat' (split at hx)
        all_goals cases hx
      | loud i' =>
        exfalso
        unfold pick2 at hx
        repeat' (split at hx)
        all_goals cases hx
      | done =>
        exfalso
        unfold pick2 at hx
        repeat' (split at hx)
        all_goals cases hx
      | two r f =>
        have key : ((i = r ∧ j = f) ∨ (i = f ∧ j = r)) ∧ r ≠ f ∧ (fl = none ∨ fl = some f) := by
          unfold pick2 at hx
          split at hx
          · rename_i f'
            split at hx
            · rename_i hb
              split at hx
              · cases hx
              · rename_i hb2; cases hx; exact ⟨.inr ⟨eqN hb, rfl⟩, beq_ne hb2, .inr rfl⟩
            · rename_i hb
              split at hx
              · rename_i hb2; cases hx; exact ⟨.inl ⟨rfl, eqN hb2⟩, beq_ne hb, .inr rfl⟩
              · cases hx
          · split at hx
            · split at hx
              · cases hx
              · rename_i hb2; cases hx; exact ⟨.inr ⟨rfl, rfl⟩, beq_ne hb2, .inl rfl⟩
            · split at hx
              · split at hx
                · cases hx
                · rename_i hb2; cases hx; exact ⟨.inl ⟨rfl, rfl⟩, beq_ne hb2, .inl rfl⟩
              · cases hx
        simp only
        split
        · rename_i h2
          simp only [Bool.and_eq_true] at h2
          refine .two r f ?_ hF key.2.1 key.2.2 (sameL_eq h2.1) h2.2
          rw [hr]
          rcases key.1 with ⟨rfl, rfl⟩ | ⟨rfl, rfl⟩
          · exact .inl rfl
          · exact .inr rfl
        · exact .no
    | _ :: _ :: _ :: _ => exact .no
theorem PR.sub {ρ : Vl} {pend : Pnd} {h : Hp} {asks asks' : Asks} (hp : PR B w0 ρ h pend asks) (hs : ∀ q ∈ asks', q ∈ asks) : PR B w0 ρ h pend asks' := fun q hq => hp q (hs q hq)
theorem PR.keepQ {ρ : Vl} {h : Hp} {pend : Pnd} {asks : Asks} (hp : PR B w0 ρ h pend asks) (t : Nat) : PR B w0 ρ h (CM.keepQ t pend) (keepB t asks) := by
  have hkp : CM.keepQ t pend = keepP t pend := by cases pend <;> rfl
  rw [hkp]; exact hp.keep t
theorem any_both (hc : CallOk P G B w0 call) (hcm : MonoF call) (hfree : regFree ops = true) (tb : List Nat) (hd : ∀ o ∈ ops.toList, ∀ d, o.dst = some d → d < n) : ∀ fe : Nat,
    (∀ (m f : Nat) (q : Oper) (xv : Value) (r : Nat) (pend : Pnd) (asks : Asks) (rg : Rg) (h : Hp) (x : Rg × Hp), anyR P call ops.toList (emasks ops.toList) tb fe m (some f) pend rg h = some x → rg.g = G → f ∈ readyB m (emasks ops.toList) 0 → operAt ops.toList f = some q → q.guard = none → freshOp q.op = true → quietAt P ops.toList f = false →
      ∀ {ρ : Vl} {a : Act} {w : World} {k : Bk} {mk : Bp → V} {g : Nat} {obj : Obj}, Frs P call ρ rg q k mk g obj → ρ.K r = some obj → (∀ ρ' b, Ext0 ρ ρ' → ρ' b = some (r, g) → RV ρ' (mk b) xv) → RH B w0 ρ h w → RR ρ n rg a → PR B w0 ρ h pend asks →
      ∀ {Q : Act → World → Prop}, (∀ ρ' a' w', Ext (unprotect ρ r) ρ' → RH B w0 ρ' x.2 w' → RR ρ' n x.1 a' → x.1.g = G → Q a' w') → ∀ fv, fe = fv + 1 → vcAnyB P ops.toList (emasks ops.toList) tb Q fv (m ||| 2 ^ f) asks (putA a q.dst xv) w)
    ∧ (∀ (m : Nat) (fl : Option Nat) (pend : Pnd) (asks : Asks) (rg : Rg) (h : Hp) (x : Rg × Hp), anyR P call ops.toList (emasks ops.toList) tb fe m fl pend rg h = some x → rg.g = G → ∀ {ρ : Vl} {a : Act} {w : World}, RH B w0 ρ h w → RR ρ n rg a → PR B w0 ρ h pend asks →
      ∀ {Q : Act → World → Prop}, (∀ ρ' a' w', Ext ρ ρ' → RH B w0 ρ' x.2 w' → RR ρ' n x.1 a' → x.1.g = G → Q a' w') → vcAnyB P ops.toList (emasks ops.toList) tb Q fe m asks a w)
  | 0 => by
    refine ⟨fun m f q xv r pend asks rg h x e hg hf ho hqg hq hnq ρ a w k mk g obj F hK hv H R hP Q hQ fv hfe => (by cases hfe), fun m fl pend asks rg h x e hg ρ a w H R hP Q hQ => ?_⟩
    obtain ⟨hr, rfl⟩ := any0 e
    simp only [vcAnyB, hr]
    exact hQ ρ a w (.refl _) H R hg
  | fe + 1 => by
    obtain ⟨ihY, ihN⟩ := any_both hc hcm hfree tb hd fe
    have SY : ∀ (m f : Nat) (q : Oper) (xv : Value) (r : Nat) (pend : Pnd) (asks : Asks) (rg : Rg) (h : Hp) (x : Rg × Hp), anyR P call ops.toList (emasks ops.toList) tb (fe + 1) m (some f) pend rg h = some x → rg.g = G → f ∈ readyB m (emasks ops.toList) 0 → operAt ops.toList f = some q → q.guard = none → freshOp q.op = true → quietAt P ops.toList f = false →
      ∀ {ρ : Vl} {a : Act} {w : World} {k : Bk} {mk : Bp → V} {g : Nat} {obj : Obj}, Frs P call ρ rg q k mk g obj → ρ.K r = some obj → (∀ ρ' b, Ext0 ρ ρ' → ρ' b = some (r, g) → RV ρ' (mk b) xv) → RH B w0 ρ h w → RR ρ n rg a → PR B w0 ρ h pend asks →
      ∀ {Q : Act → World → Prop}, (∀ ρ' a' w', Ext (unprotect ρ r) ρ' → RH B w0 ρ' x.2 w' → RR ρ' n x.1 a' → x.1.g = G → Q a' w') → vcAnyB P ops.toList (emasks ops.toList) tb Q fe (m ||| 2 ^ f) asks (putA a q.dst xv) w := by
      intro m f q xv r pend asks rg h x e hg hf ho hqg hq hnq ρ a w k mk g obj F hK hv H R hP Q hQ
      have hdq := hd q (by rw [operAt_eq] at ho; exact List.mem_of_getElem? ho)
      have e : anyK P call ops.toList tb (nextB P ops.toList (emasks ops.toList) m (some f)) (some f) (fun i => anyR P call ops.toList (emasks ops.toList) tb fe (m ||| 2 ^ i)) pend rg h = some x := e
      have hspec := nextB_spec (P := P) ops.toList (emasks ops.toList) m (some f)
      have ovap : ∀ {i : Nat} {o : Oper}, i ∈ readyB m (emasks ops.toList) 0 → i ≠ f → operAt ops.toList i = some o → (Ov.yes f q xv r).apart ops o ∧ ∀ t, o.dst = some t → t ∉ q.looksAt ops := fun {i o} hi hne hoi => by
        obtain ⟨_, h2⟩ := apart_ready hfree hi hf hne hoi ho
        obtain ⟨a1, a2, a3⟩ := Oper.apart_spec h2
        exact ⟨⟨a1, a2⟩, a3⟩
      generalize nextB P ops.toList (emasks ops.toList) m (some f) = nx at e hspec
      cases hspec with
      | no => cases e
      | done hr _ => rw [hr] at hf; simp at hf
      | quiet i hi hrd =>
        have hrd := hrd f rfl
        unfold anyK at e
        simp only at e
        cases hoi : operAt ops.toList i with
        | none => rw [hoi] at e; cases e
        | some o =>
          rw [hoi] at e
          simp only at e
          have hne : i ≠ f := fun he => by
            subst he
            have := findB_quiet hi
            rw [hnq] at this; cases this
          obtain ⟨hap, hlk⟩ := ovap (findB_mem hi) hne hoi
          cases fe with
          | zero =>
            obtain ⟨p', rg', h', hk⟩ := quietR_cont e
            have := (any0 hk).1
            have hm := ready_more hf (Ne.symm hne)
            rw [this] at hm; simp at hm
          | succ fv =>
            refine quiet_step (ov := .yes f q xv r) hc hcm hfree hd hrd hoi hap e hg H R hP ?_
            intro pend' asks' v rg' h' ρ' a' hrg hk e1 H' R' hP'
            have := ihY (m ||| 2 ^ i) f q xv r pend' asks' rg' h' x hk (by rw [hrg, putD_g]; exact hg) (ready_more hf (Ne.symm hne)) ho hqg hq hnq (ρ := ρ') (a := a') (w := w) (by rw [hrg]; exact F.put hq e1.to0 hlk) (by rw [e1.1.2]; exact hK) (fun ρ2 b e2 hb => hv ρ2 b (e1.to0.trans e2) hb) H' R' hP' (Q := Q)
              (fun ρ2 a2 w2 e2 => hQ ρ2 a2 w2 ((Ov.base_ext (ov := .yes f q xv r) e1).trans e2)) fv rfl
            have hm := Ov.mask_comm (.yes f q xv r) m i
            simp only [Ov.mask] at hm
            rw [hm]
            exact this
      | loud i hr hn =>
        rw [hr] at hf
        have : f = i := by simpa using hf
        subst this
        unfold anyK at e
        simp only [ho] at e
        rcases stepR_some e with ⟨_, v, h1, hx, hk⟩ | ⟨hw, _⟩
        · rw [F.ex] at hx
          obtain ⟨rfl, rfl⟩ := some_pair hx
          obtain ⟨ha, hk⟩ := loudK_some hk
          have HA := H.adopt hK F.rb
          have ext : Ext0 ρ (ρput (unprotect ρ r) h.nx (r, g)) := ⟨rfl, fun b y hy => by
            by_cases eb : b = h.nx
            · subst eb; exact absurd (H.fresh _ _ hy) (Nat.lt_irrefl _)
            · rw [ρput_ne _ _ _ eb]; exact hy⟩
          have extU : Ext (unprotect ρ r) (ρput (unprotect ρ r) h.nx (r, g)) := ⟨⟨rfl, rfl⟩, ext.2⟩
          exact ihN (m ||| 2 ^ f) none pend asks _ _ x hk (by rw [putD_g]; exact hg) HA ((R.mono0 ext).put hdq (hv _ h.nx ext (ρput_eq _ _ _))) (hP.mono ext (MW.new h _ H.wf).2) fun ρ2 a2 w2 e2 => hQ ρ2 a2 w2 (extU.trans e2)
        · rw [hqg] at hw; cases hw
      | two i f' hr hn hne hfl hrd hfr =>
        have hff : f' = f := by
          rcases hfl with h | h
          · cases h
          · cases h; rfl
        subst hff
        have hi : i ∈ readyB m (emasks ops.toList) 0 := by rcases hr with hr | hr <;> rw [hr] <;> simp
        unfold anyK at e
        simp only [ho] at e
        cases hoi : operAt ops.toList i with
        | none => rw [hoi] at e; cases e
        | some o =>
          rw [hoi] at e
          simp only at e
          split at e
          · obtain ⟨hap, hlk⟩ := ovap hi hne hoi
            cases fe with
            | zero =>
              obtain ⟨rg', h', hk⟩ := stepR_cont e
              have := (any0 hk).1
              have hm := ready_more hf (Ne.symm hne)
              rw [this] at hm; simp at hm
            | succ fv =>
              have hrd1 : readyB (m ||| 2 ^ f') (emasks ops.toList) 0 = [i] := by
                have h1 : Nat.beq f' f' = true := Nat.beq_refl _
                have h2 : Nat.beq i f' = false := by cases hb : Nat.beq i f' with | false => rfl | true => exact absurd (eqN hb) hne
                rw [hrd]
                rcases hr with hr | hr <;> rw [hr] <;> simp [without, h1, h2]
              have hfn : findB P ops.toList (readyB (m ||| 2 ^ f') (emasks ops.toList) 0) = none := by rw [hrd, findB_without hnq]; exact hn
              simp only [vcAnyB, hfn]
              rw [hrd1]
              simp only [allL, hoi]
              refine loud_step (ov := .yes f' q xv r) hc hcm hfree hd hoi hap e hg H R (hP.keepQ _) ?_
              intro pend' asks' v rg' h' ρ' a' w' hrg hk e1 H' R' hP'
              have := ihY (m ||| 2 ^ i) f' q xv r pend' asks' rg' h' x hk (by rw [hrg, putD_g]; exact hg) (ready_more hf (Ne.symm hne)) ho hqg hq hnq (ρ := ρ') (a := a') (w := w') (by rw [hrg]; exact F.put hq e1.to0 hlk) (by rw [e1.1.2]; exact hK) (fun ρ2 b e2 hb => hv ρ2 b (e1.to0.trans e2) hb) H' R' hP' (Q := Q)
                (fun ρ2 a2 w2 e2 => hQ ρ2 a2 w2 ((Ov.base_ext (ov := .yes f' q xv r) e1).trans e2)) fv rfl
              have hm := Ov.mask_comm (.yes f' q xv r) m i
              simp only [Ov.mask] at hm
              rw [hm]
              exact this
          · cases e
    refine ⟨fun m f q xv r pend asks rg h x e hg hf ho hqg hq hnq ρ a w k mk g obj F hK hv H R hP Q hQ fv hfe => by cases hfe; exact SY m f q xv r pend asks rg h x e hg hf ho hqg hq hnq F hK hv H R hP hQ, ?_⟩
    intro m fl pend asks rg h x e hg ρ a w H R hP Q hQ
    have e : anyK P call ops.toList tb (nextB P ops.toList (emasks ops.toList) m fl) fl (fun i => anyR P call ops.toList (emasks ops.toList) tb fe (m ||| 2 ^ i)) pend rg h = some x := e
    have hspec := nextB_spec (P := P) ops.toList (emasks ops.toList) m fl
    generalize nextB P ops.toList (emasks ops.toList) m fl = nx at e hspec
    cases hspec with
    | no => cases e
    | done hr hn =>
      have e : some (rg, h) = some x := e
      cases e
      simp only [vcAnyB, hn]
      rw [hr]
      exact hQ ρ a w (.refl _) H R hg
    | quiet i hi hrd =>
      unfold anyK at e
      simp only at e
      cases hoi : operAt ops.toList i with
      | none => rw [hoi] at e; cases e
      | some o =>
        rw [hoi] at e
        simp only at e
        refine quiet_step (ov := .no) hc hcm hfree hd hi hoi trivial e hg H R hP ?_
        intro pend' asks' v rg' h' ρ' a' hrg hk e1 H' R' hP'
        exact ihN (m ||| 2 ^ i) fl pend' asks' rg' h' x hk (by rw [hrg, putD_g]; exact hg) H' R' hP' fun ρ2 a2 w2 e2 => hQ ρ2 a2 w2 (e1.trans e2)
    | loud i hr hn =>
      unfold anyK at e
      simp only at e
      cases hoi : operAt ops.toList i with
      | none => rw [hoi] at e; cases e
      | some o =>
        rw [hoi] at e
        simp only at e
        simp only [vcAnyB, hn]
        rw [hr]
        simp only [allL, hoi]
        have hPk : PR B w0 ρ h (keepL fl (natAt tb i) pend) (keepB (natAt tb i) asks) := by
          cases fl with
          | none => exact hP.keepQ _
          | some f => exact hP.sub fun q hq => (mem_keepB.1 hq).1
        refine loud_step (ov := .no) hc hcm hfree hd hoi trivial e hg H R hPk ?_
        intro pend' asks' v rg' h' ρ' a' w' hrg hk e1 H' R' hP'
        exact ihN (m ||| 2 ^ i) none pend' asks' rg' h' x hk (by rw [hrg, putD_g]; exact hg) H' R' hP' fun ρ2 a2 w2 e2 => hQ ρ2 a2 w2 (e1.trans e2)
    | two i f hr hn hne hfl hrd hfr =>
      obtain ⟨hnq, q, ho, hqg, hq⟩ := fresh_notquiet (P := P) hfr
      have hi : i ∈ readyB m (emasks ops.toList) 0 := by rcases hr with hr | hr <;> rw [hr] <;> simp
      have hf : f ∈ readyB m (emasks ops.toList) 0 := by rcases hr with hr | hr <;> rw [hr] <;> simp
      have e0 := e
      unfold anyK at e
      simp only [ho] at e
      cases hoi : operAt ops.toList i with
      | none => rw [hoi] at e; cases e
      | some o =>
        rw [hoi] at e
        simp only at e
        split at e
        · rename_i hchk
          simp only [Bool.and_eq_true] at hchk
          -- the other one first
          have one : (match o.guard with
              | none => vcOp P o a w fun v w' => stbs (keepB (natAt tb i) asks) w' (vcAnyB P ops.toList (emasks ops.toList) tb Q fe (m ||| 2 ^ i) (keepB (natAt tb i) asks) (putA a o.dst v) w')
              | some (j, want) => Gd (slotB ops.toList j a) want (fun K => vcOp P o a w K) w fun v w' => stbs (keepB (natAt tb i) asks) w' (vcAnyB P ops.toList (emasks ops.toList) tb Q fe (m ||| 2 ^ i) (keepB (natAt tb i) asks) (putA a o.dst v) w')) := by
            refine loud_step (ov := .no) hc hcm hfree hd hoi trivial e hg H R (hP.keepQ _) ?_
            intro pend' asks' v rg' h' ρ' a' w' hrg hk e1 H' R' hP'
            exact ihN (m ||| 2 ^ i) (some f) pend' asks' rg' h' x hk (by rw [hrg, putD_g]; exact hg) H' R' hP' fun ρ2 a2 w2 e2 => hQ ρ2 a2 w2 (e1.trans e2)
          -- the floating one first
          have two : vcOp P q a w fun v w' => stbs (keepB (natAt tb f) asks) w' (vcAnyB P ops.toList (emasks ops.toList) tb Q fe (m ||| 2 ^ f) (keepB (natAt tb f) asks) (putA a q.dst v) w') := by
            obtain ⟨k, mk, g, obj, F, hrun⟩ := fresh_run (call := call) hq R hchk.1
            refine hrun w _ fun xv hxv => ?_
            have HP := H.protect obj
            have hPk := (hP.keepQ (natAt tb f)).mono (protect_ext0 ρ (sz w) obj) (.refl _)
            refine stbs_intro ?_ (hPk.holds HP hchk.2)
            have hfe : anyR P call ops.toList (emasks ops.toList) tb (fe + 1) m (some f) pend rg h = some x := by
              rcases hfl with rfl | rfl
              · have hn2 : nextB P ops.toList (emasks ops.toList) m (some f) = .two i f := by
                  unfold nextB nextB'
                  have h1 : flOk (emasks ops.toList) m (some f) = true := by
                    have : ∀ l : List Nat, sameL l l = true := fun l => by induction l with | nil => rfl | cons j l ih => simp [sameL, ih, Nat.beq_refl]
                    show sameL (readyB (m ||| 2 ^ f) (emasks ops.toList) 0) (without f (readyB m (emasks ops.toList) 0)) = true; rw [hrd]; exact this _
                  rw [hn]
                  have h2 : Nat.beq f f = true := Nat.beq_refl _
                  have h3 : Nat.beq i f = false := by cases hb : Nat.beq i f with | false => rfl | true => exact absurd (eqN hb) hne
                  rcases hr with hr | hr <;> rw [hr] <;> simp only [pick2, h2, h3, h1, hfr, Bool.and_self]
                show anyK P call ops.toList tb (nextB P ops.toList (emasks ops.toList) m (some f)) (some f) (fun i => anyR P call ops.toList (emasks ops.toList) tb fe (m ||| 2 ^ i)) pend rg h = some x
                rw [hn2]; exact e0
              · show anyK P call ops.toList tb (nextB P ops.toList (emasks ops.toList) m (some f)) (some f) (fun i => anyR P call ops.toList (emasks ops.toList) tb fe (m ||| 2 ^ i)) pend rg h = some x
                have hn2 : nextB P ops.toList (emasks ops.toList) m (some f) = .two i f := by
                  unfold nextB nextB'
                  have h1 : flOk (emasks ops.toList) m (some f) = true := by
                    have : ∀ l : List Nat, sameL l l = true := fun l => by induction l with | nil => rfl | cons j l ih => simp [sameL, ih, Nat.beq_refl]
                    show sameL (readyB (m ||| 2 ^ f) (emasks ops.toList) 0) (without f (readyB m (emasks ops.toList) 0)) = true; rw [hrd]; exact this _
                  rw [hn]
                  have h2 : Nat.beq f f = true := Nat.beq_refl _
                  have h3 : Nat.beq i f = false := by cases hb : Nat.beq i f with | false => rfl | true => exact absurd (eqN hb) hne
                  rcases hr with hr | hr <;> rw [hr] <;> simp only [pick2, h2, h3, h1, hfr, Bool.and_self]
                rw [hn2]; exact e0
            have hKn : ρ.K (sz w) = none := by
              cases hk : ρ.K (sz w) with
              | none => rfl
              | some o => exact absurd (H.kp _ _ hk).2.1 (Nat.lt_irrefl _)
            have hun : (unprotect (protect ρ (sz w) obj) (sz w)).K = ρ.K := by
              funext q'
              show (if q' = sz w then none else (if q' = sz w then some obj else ρ.K q')) = ρ.K q'
              by_cases hq' : q' = sz w
              · rw [if_pos hq', hq', hKn]
              · rw [if_neg hq', if_neg hq']
            refine SY m f q xv (sz w) pend _ rg h x hfe hg hf ho hqg hq hnq (ρ := protect ρ (sz w) obj) (k := k) (mk := mk) (g := g) (obj := obj) ⟨F.ex, F.rb.mono0 (protect_ext0 ..)⟩ (if_pos rfl) (fun ρ' b e1 hb => hxv ρ' b ((protect_ext0 ..).trans e1) hb) HP (R.mono0 (protect_ext0 ..)) ((hP.mono (protect_ext0 ..) (.refl _)).sub fun q hq => (mem_keepB.1 hq).1) ?_
            intro ρ2 a2 w2 e2
            exact hQ ρ2 a2 w2 ⟨⟨e2.1.1, e2.1.2.trans hun⟩, e2.2⟩
          simp only [vcAnyB, hn]
          have two' : (match q.guard with
              | none => vcOp P q a w fun v w' => stbs (keepB (natAt tb f) asks) w' (vcAnyB P ops.toList (emasks ops.toList) tb Q fe (m ||| 2 ^ f) (keepB (natAt tb f) asks) (putA a q.dst v) w')
              | some (j, want) => Gd (slotB ops.toList j a) want (fun K => vcOp P q a w K) w fun v w' => stbs (keepB (natAt tb f) asks) w' (vcAnyB P ops.toList (emasks ops.toList) tb Q fe (m ||| 2 ^ f) (keepB (natAt tb f) asks) (putA a q.dst v) w')) := by
            rw [hqg]; exact two
          rcases hr with hr | hr
          · rw [hr]
            simp only [allL, hoi, ho]
            exact ⟨one, two'⟩
          · rw [hr]
            simp only [allL, hoi, ho]
            exact ⟨two', one⟩
        · cases e
theorem any_sound (hc : CallOk P G B w0 call) (hcm : MonoF call) (hfree : regFree ops = true) (tb : List Nat) (hd : ∀ o ∈ ops.toList, ∀ d, o.dst = some d → d < n) (fuel m : Nat) (rg : Rg) (h : Hp) (x : Rg × Hp) (e : anyR P call ops.toList (emasks ops.toList) tb fuel m none [] rg h = some x) (hg : rg.g = G)
    {ρ : Vl} {a : Act} {w : World} (H : RH B w0 ρ h w) (R : RR ρ n rg a) {Q : Act → World → Prop} (hQ : ∀ ρ' a' w', Ext ρ ρ' → RH B w0 ρ' x.2 w' → RR ρ' n x.1 a' → x.1.g = G → Q a' w') : vcAnyB P ops.toList (emasks ops.toList) tb Q fuel m [] a w :=
  (any_both hc hcm hfree tb hd fuel).2 m none [] [] rg h x e hg H R (fun q hq => by simp at hq) hQ
end
end Go.Proofs.YthdaccndnfgeeaaGreatDoor.CM
