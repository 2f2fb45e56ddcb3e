/- What a step of the evaluator leaves as it was. No program in sight. -/
import Derived.Test.YthdaccndnfgeeaaGreatDoorExM
namespace Go.Proofs.YthdaccndnfgeeaaGreatDoor.CM
open Go
def Mo (h h' : Hp) : Prop := ∀ b, stamp h b ≤ stamp h' b ∧ (stamp h' b = stamp h b → ∀ k, h.blk b = some k → h'.blk b = some k)
def Wf (h : Hp) : Prop := ∀ b k, h.blk b = some k → b.num < h.nx.num
def MW (h h' : Hp) : Prop := Wf h → Wf h' ∧ Mo h h'
theorem Mo.refl (h : Hp) : Mo h h := fun _ => ⟨Nat.le_refl _, fun _ _ hb => hb⟩
theorem Mo.trans {a b c : Hp} (h : Mo a b) (h' : Mo b c) : Mo a c := fun q =>
  ⟨Nat.le_trans (h q).1 (h' q).1, fun e k hq => by
    have h1 := (h q).1; have h2 := (h' q).1
    exact (h' q).2 (by omega) k ((h q).2 (by omega) k hq)⟩
theorem MW.refl (h : Hp) : MW h h := fun hw => ⟨hw, .refl h⟩
theorem MW.trans {a b c : Hp} (h : MW a b) (h' : MW b c) : MW a c := fun hw => ⟨(h' (h hw).1).1, (h hw).2.trans (h' (h hw).1).2⟩
theorem MW.new (h : Hp) (k : Bk) : MW h (newB h k) := fun hw =>
  ⟨fun b k' hb => by
    show b.num < h.nx.succ.num
    rw [Bp.num_succ]
    rw [blk_new] at hb
    split at hb
    · rename_i e; subst e; omega
    · have := hw b k' hb; omega,
   fun b => ⟨Nat.le_refl _, fun _ k' hb => by
    rw [blk_new, if_neg (fun e => by subst e; exact absurd (hw _ _ hb) (Nat.lt_irrefl _))]
    exact hb⟩⟩
theorem MW.set {h : Hp} {b : Bp} {k0 : Bk} (hb : h.blk b = some k0) (k : Bk) : MW h (setB h b k) := fun hw =>
  ⟨fun a k' ha => by
    rw [blk_put] at ha
    rw [setB_nx]
    split at ha
    · rename_i e; subst e; exact hw _ _ hb
    · exact hw _ _ ha,
   fun a => by
    rw [setB_stamp]
    by_cases e : b = a
    · subst e; rw [if_pos rfl]; exact ⟨Nat.le_succ _, fun e => absurd e (Nat.succ_ne_self _)⟩
    · rw [if_neg e]; refine ⟨Nat.le_refl _, fun _ k' hk => ?_⟩
      rw [blk_put, if_neg e]; exact hk⟩
theorem unch_ptr {h h' : Hp} (m : Mo h h') {b : Bp} {o : Nat} (hu : unch1 h h' (.ptr b o) = true) {k : Bk} (hb : h.blk b = some k) : h'.blk b = some k := (m b).2 (Nat.eq_of_beq_eq_true hu) k hb
theorem unch_map {h h' : Hp} (m : Mo h h') {b : Bp} (hu : unch1 h h' (.map b) = true) {k : Bk} (hb : h.blk b = some k) : h'.blk b = some k := (m b).2 (Nat.eq_of_beq_eq_true hu) k hb
theorem RH.wf {B : Nat} {w0 : World} {ρ : Vl} {h : Hp} {w : World} (H : RH B w0 ρ h w) : Wf h := fun b k hb => by
  obtain ⟨r, g, h1, _⟩ := H.blk b k hb
  exact H.fresh _ _ h1
/-- A step that leaves, if anything, a heap that is more. -/
def HS (r : Res) (h : Hp) : Prop := ∀ v h1, r = some (v, h1) → MW h h1
def MonoF (call : Cl) : Prop := ∀ f args h, HS (call f args h) h
theorem HS.none {h : Hp} : HS none h := fun v h1 e => by cases e
theorem HS.same {h : Hp} (v : V) : HS (some (v, h)) h := fun v' h1 e => by cases e; exact .refl _
theorem HS.new {h : Hp} (v : V) (k : Bk) : HS (some (v, newB h k)) h := fun v' h1 e => by cases e; exact .new _ _
theorem HS.set {h : Hp} (v : V) {b : Bp} {k0 : Bk} (hb : h.blk b = some k0) (k : Bk) : HS (some (v, setB h b k)) h := fun v' h1 e => by cases e; exact .set hb _
theorem HS.pV {h : Hp} (r : Option V) : HS (pV r h) h := by cases r; exact .none; exact .same _
theorem HS.w1 {h : Hp} {r : Option V} {k : V → Res} (hk : ∀ v, HS (k v) h) : HS (with1 r k) h := by cases r; exact .none; exact hk _
theorem HS.w2 {h : Hp} {r s : Option V} {k : V → V → Res} (hk : ∀ v u, HS (k v u) h) : HS (with2 r s k) h := by cases r; exact .none; cases s; exact .none; exact hk _ _
theorem HS.wP {h : Hp} {r : Option (List (Nat × V))} {k : List (Nat × V) → Res} (hk : ∀ v, HS (k v) h) : HS (withP r k) h := by cases r; exact .none; exact hk _
theorem HS.ws {h : Hp} {r : Option (List V)} {k : List V → Res} (hk : ∀ v, HS (k v) h) : HS (withs r k) h := by cases r; exact .none; exact hk _
theorem HS.nat {h : Hp} {v : V} {k : Nat → Res} (hk : ∀ v, HS (k v) h) : HS (asNat v k) h := by
  cases v <;> first
    | exact .none
    | (rename_i n; cases n; exact hk _; exact .none)
theorem HS.ptr {h : Hp} {v : V} {k : Bp → Nat → Res} (hk : ∀ b o, HS (k b o) h) : HS (asPtr v k) h := by
  cases v <;> first
    | exact .none
    | exact hk _ _
theorem HS.pr {h : Hp} {v : V} {k : Bp → Nat → Res} {k' : Nat → Nat → List V → Res} (hk : ∀ b o, HS (k b o) h) (hk' : ∀ r o l, HS (k' r o l) h) : HS (asPR v k k') h := by
  cases v <;> first
    | exact .none
    | exact hk _ _
    | exact hk' _ _ _
theorem HS.amap {h : Hp} {v : V} {k : Bp → Res} (hk : ∀ b, HS (k b) h) : HS (asMap v k) h := by
  cases v <;> first
    | exact .none
    | exact hk _
theorem HS.i64 {h : Hp} {v : V} {k : Int → Res} (hk : ∀ b, HS (k b) h) : HS (i64K v k) h := by
  cases v <;> first
    | exact .none
    | (rename_i q n; cases q <;> first | exact .none | exact hk _)
theorem HS.aint {h : Hp} {v : V} {k : IntKind → Int → Res} (hk : ∀ q b, HS (k q b) h) : HS (asInt' v k) h := by
  cases v <;> first
    | exact .none
    | exact hk _ _
theorem wrB_mw {n : Nat} {h h1 : Hp} {b : Bp} {o : Nat} {v : V} (e : wrB n h b o v = some h1) : MW h h1 := by
  unfold wrB at e
  split at e
  · cases e
  · split at e
    · rename_i hb
      split at e
      · cases e; exact .set hb _
      · cases e
    · rename_i hb
      split at e
      · cases e; exact .set hb _
      · cases e
    · cases e
theorem putEls_mw {h h1 : Hp} {b : Bp} {o z : Nat} {new : List V} (e : putEls h b o z new = some h1) : MW h h1 := by
  unfold putEls at e
  split at e
  · rename_i hb
    split at e
    · cases e; exact .set hb _
    · cases e
  · rename_i hb
    split at e
    · cases e; exact .set hb _
    · cases e
  · cases e
theorem bnd2_hs {lo : Option V} {m : Nat} {k : Nat → Nat → Nat → Res} {hh : Option Nat} {h : Hp} (hk : ∀ a b c, HS (k a b c) h) : HS (bnd2 lo m k hh) h := by
  unfold bnd2; split
  · split
    · exact hk _ _ _
    · exact .none
  · exact .none
theorem bnds_hs {lo hi mx : Option V} {n c : Nat} {k : Nat → Nat → Nat → Res} {h : Hp} (hk : ∀ a b c, HS (k a b c) h) : HS (bnds lo hi mx n c k) h := by
  unfold bnds; split
  · exact bnd2_hs hk
  · split
    · exact .none
    · split
      · exact bnd2_hs hk
      · exact .none
theorem slc_hs {s : SlK} {x : V} {lo hi mx : Option V} {h : Hp} : HS (slcV s x lo hi mx h) h := by
  unfold slcV slcStr slcPtr slcSlk
  split
  · split
    · split
      · exact bnds_hs fun _ _ _ => .same _
      · exact .none
    · exact .none
  · split
    · exact bnds_hs fun _ _ _ => .same _
    · exact .none
  · split
    · exact bnds_hs fun _ _ _ => .same _
    · unfold slcSl; split
      · exact bnds_hs fun _ _ _ => .same _
      · exact .none
    · unfold slcSg; split
      · exact bnds_hs fun _ _ _ => .same _
      · split
        · exact .none
        · exact bnds_hs fun _ _ _ => .same _
    · unfold slcRo; split
      · exact bnds_hs fun _ _ _ => .same _
      · exact .none
    · exact .none
  · exact .none
theorem app_hs {z bytes : Nat} {s x : V} {h : Hp} : HS (appK z bytes s x h) h := by
  unfold appK
  split
  · exact .none
  · split
    · split
      · exact .same _
      · split
        · exact .same _
        · exact .none
      · exact .same _
      · exact .none
    · split
      · exact .none
      · split
        · exact .new _ _
        · split
          · split
            · rename_i hp; exact fun v h1 e => by cases e; exact putEls_mw hp
            · exact .none
          · split
            · exact .new _ _
            · exact .none
        · split
          · rename_i hb
            split
            · exact .none
            · split
              · exact .none
              · split
                · exact fun v h1 e => by cases e; exact (MW.set hb _).trans (.new _ _)
                · split
                  · exact .set _ hb _
                  · exact .none
          · exact .none
        · exact .none
theorem bi_hs {P : Program} {b : Builtin} {ts : Array TypeId} {l : List V} {h : Hp} : HS (biV P b ts l h) h := by
  have a0 : ∀ {k : TypeId → Res}, (∀ T, HS (k T) h) → HS (arg0 ts k) h := fun hk => by unfold arg0; split; exact hk _; exact .none
  have o1 : ∀ {k : V → Res}, (∀ T, HS (k T) h) → HS (one? l k) h := fun hk => by unfold one?; split; exact hk _; exact .none
  have o2 : ∀ {k : V → V → Res}, (∀ T u, HS (k T u) h) → HS (two? l k) h := fun hk => by unfold two?; split; exact hk _ _; exact .none
  unfold biV
  split
  · refine a0 fun T => o1 fun x => ?_
    unfold lenK lenSl goV
    repeat' split
    all_goals first | exact .same _ | exact .none
  · refine a0 fun T => o2 fun s x => ?_
    unfold appV
    split
    · exact .none
    · exact app_hs
  · refine a0 fun T => o2 fun d x => ?_
    unfold cpyK
    split
    · split
      · unfold cpyN goV
        split
        · exact .same _
        · split
          · rename_i hc
            refine fun v h1 e => ?_
            cases e
            unfold cpyTo at hc
            split at hc
            · exact putEls_mw hc
            · exact putEls_mw hc
            · cases hc
          · exact .none
      · exact .none
    · exact .none
  · refine a0 fun T => o2 fun m k => ?_
    refine HS.amap fun b => .i64 fun k => ?_
    unfold delK
    split
    · rename_i hb; exact .set _ hb _
    · exact .none
  · exact o2 fun x y => .aint fun _ _ => .aint fun _ _ => .same _
  · exact o2 fun x y => .aint fun _ _ => .aint fun _ _ => .same _
  · exact .none
theorem noS_hs {call : Cl} {rg : Rg} {h : Hp} : HS (noS call rg h) h := .none
/-- One operation. -/
theorem exR_mono {P : Program} {call : Cl} (hc : MonoF call) (rg : Rg) (o : Oper) (h : Hp) : HS (exR P call rg o h) h := by
  unfold exR
  generalize o.op = op
  unfold exO
  split
  · exact .pV _
  · exact .pV _
  · exact .w1 fun _ => .pV _
  · exact .w2 fun _ _ => .pV _
  · exact .w1 fun _ => .pV _
  · refine .w1 fun v => .pr (fun b o => ?_) fun r o l => ?_
    · split; exact .pV _; exact .none
    · split; exact .pV _; exact .none
  · refine .w2 fun v u => .ptr fun b o => ?_
    split
    · refine fun v h1 e => ?_
      unfold pH at e
      cases hw : wrB _ h b o u with
      | none => rw [hw] at e; cases e
      | some h2 => rw [hw] at e; cases e; exact wrB_mw hw
    · exact .none
  · exact .w1 fun _ => .new _ _
  · refine .w1 fun v => ?_
    unfold boxK; split
    · exact .new _ _
    · exact .none
  · refine .wP fun ps => ?_
    unfold bldK; split
    · split
      · exact .same _
      · exact .none
    · exact .none
  · refine .wP fun ps => ?_
    unfold bslK; split
    · split
      · split
        · exact .new _ _
        · exact .none
      · exact .none
    · exact .none
  · refine .w1 fun v => ?_
    cases v <;> first | exact .none | exact .same _
  · rename_i T x f
    unfold sFa
    cases fi P T f with
    | none => exact noS_hs
    | some k => exact .w1 fun v => .pr (fun _ _ => .same _) fun _ _ _ => .same _
  · refine .w1 fun v => ?_
    unfold fldK
    repeat' split
    all_goals first | exact .same _ | exact .pV _ | exact .none
  · have gb : ∀ {c : Bool} {v : V}, HS (Bool.rec none (some (v, h)) c) h := fun {c v} => by cases c; exact .none; exact .same _
    rename_i T x i
    unfold sIxa
    cases ixi P T with
    | none => exact noS_hs
    | some p =>
      obtain ⟨q, z⟩ := p
      cases q with
      | some n =>
        refine .w2 fun x i => .nat fun j => ?_
        cases x <;> first | exact .none | exact gb
      | none =>
        refine .w2 fun x i => .nat fun j => ?_
        cases x <;> first
          | exact .none
          | exact gb
          | (show HS (ixRo _ _ _ _ _ _ _) h; unfold ixRo; split; (split; exact .same _; exact .none); exact .none)
  · refine .w2 fun x i => .nat fun j => ?_
    unfold ixvV ixvA
    repeat' split
    all_goals first | exact .same _ | exact .pV _ | exact .none
  · refine .w1 fun v => ?_
    unfold extK; split
    · exact .pV _
    · exact .none
  · unfold sSlc
    split
    · exact slc_hs
    · exact .none
  · rename_i fn first cap
    unfold sMkf
    generalize first.toList = l
    cases l with
    | cons _ _ => exact noS_hs
    | nil =>
      cases fn <;> first
        | exact noS_hs
        | (show HS (match opVs rg cap.toList with | some l => some (V.fn _ l, h) | none => none) h; split; exact .same _; exact .none)
  · refine .w2 fun l c => .nat fun l => .nat fun c => ?_
    unfold mksK
    split
    · split
      · exact .new _ _
      · exact .none
    · exact .none
  · refine .w1 fun x => ?_
    unfold convV
    repeat' split
    all_goals first | exact .same _ | exact .new _ _ | exact .none
  · rename_i T r
    unfold sMkm
    cases r
    · exact .new _ _
    · exact noS_hs
  · refine .w2 fun x i => .i64 fun k => ?_
    unfold lkpK
    repeat' split
    all_goals first | exact .same _ | exact .none
  · refine .w2 fun m k => .amap fun b => .i64 fun k => .w1 fun v => ?_
    unfold updK
    split
    · rename_i hb; exact .set _ hb _
    · exact .none
  · refine .w1 fun v => ?_
    unfold a2pK
    repeat' split
    all_goals first | exact .same _ | exact .none
  · rename_i c
    obtain ⟨callee, args, ts⟩ := c
    unfold sCall
    cases callee with
    | value f =>
      refine .w1 fun f => .ws fun args => ?_
      cases f <;> first | exact .none | exact hc _ _ _
    | builtin b => exact .ws fun l => bi_hs
    | invoke _ _ => exact noS_hs
  · exact noS_hs
theorem mapOf_same {x : V} {h h' : Hp} {l : List (Int × V)} (m : Mo h h') (hu : unch1 h h' x = true) (e : mapOf x h = some l) : mapOf x h' = some l := by
  unfold mapOf at e ⊢
  split at e
  · exact e
  · rename_i b
    split at e
    · rename_i hb
      cases e
      simp only [unch_map m hu hb]
    · cases e
  · cases e
theorem lenK_same {q : LnK} {x v : V} {h h1 h' : Hp} (m : Mo h h') (hu : unch1 h h' x = true) (e : lenK q x h = some (v, h1)) : ∃ h2, lenK q x h' = some (v, h2) := by
  cases q with
  | sl => cases x <;> first | (cases e; done) | (cases e; exact ⟨_, rfl⟩)
  | str => cases x <;> first | (cases e; done) | (cases e; exact ⟨_, rfl⟩)
  | arr n => cases e; exact ⟨_, rfl⟩
  | map =>
    unfold lenK at e ⊢
    simp only at e ⊢
    split at e
    · rename_i hm; rw [mapOf_same m hu hm]; cases e; exact ⟨_, rfl⟩
    · cases e
  | no => cases e
/-- What is read comes again from a heap that is more. -/
theorem exR_same {P : Program} {call : Cl} {rg : Rg} {o : Oper} {h h1 h' : Hp} {v : V} (hr : (readOp o.op || cvPure P o.op) = true) (m : Mo h h') (hu : unch rg o.op h h' = true) (e : exR P call rg o h = some (v, h1)) : ∃ h2, exR P call rg o h' = some (v, h2) := by
  unfold exR at e ⊢
  generalize hop : o.op = op at *
  unfold exO at e ⊢
  cases op with
  | load T x =>
    simp only at e ⊢
    unfold sLoad at e ⊢
    unfold unch at hu
    simp only at hu
    cases hx : opV rg x with
    | none => rw [hx] at e; cases e
    | some u =>
      rw [hx] at e hu
      have hu : unch1 h h' u = true := hu
      show ∃ h2, ldK (shp P T) u h' = some (v, h2)
      have e : ldK (shp P T) u h = some (v, h1) := e
      cases u with
      | rp r o l =>
        have e : (match shp P T with | some (ag, n) => pV (rdRp ag n l) h | none => none) = some (v, h1) := e
        show ∃ h2, (match shp P T with | some (ag, n) => pV (rdRp ag n l) h' | none => none) = some (v, h2)
        split at e
        · cases hq : rdRp _ _ l with
          | none => rw [hq] at e; cases e
          | some q => rw [hq] at e; cases e; exact ⟨_, rfl⟩
        · cases e
      | ptr b o =>
        have e : (match shp P T with | some (ag, n) => pV (rdB ag n h b o) h | none => none) = some (v, h1) := e
        show ∃ h2, (match shp P T with | some (ag, n) => pV (rdB ag n h' b o) h' | none => none) = some (v, h2)
        split at e
        · rename_i ag n _
          cases hq : rdB ag n h b o with
          | none => rw [hq] at e; cases e
          | some q =>
            rw [hq] at e; cases e
            have : rdB ag n h' b o = some v := by
              unfold rdB at hq ⊢
              split at hq
              · rename_i hb; rw [unch_ptr m hu hb]; exact hq
              · rename_i hb; rw [unch_ptr m hu hb]; exact hq
              · cases hq
            rw [this]; exact ⟨_, rfl⟩
        · cases e
      | _ => cases e
  | lookup T x i ok =>
    simp only at e ⊢
    unfold sLkp at e ⊢
    unfold unch at hu
    simp only at hu
    cases hx : opV rg x with
    | none => rw [hx] at e; cases e
    | some u =>
      rw [hx] at hu
      have hu : unch1 h h' u = true := hu
      cases hi : opV rg i with
      | none => rw [hx, hi] at e; cases e
      | some j =>
        rw [hx, hi] at e
        have e : lkpV (mapT P T) u j ok h = some (v, h1) := e
        show ∃ h2, lkpV (mapT P T) u j ok h' = some (v, h2)
        unfold lkpV at e ⊢
        have key : ∀ k : Int, (match mapT P T, mapOf u h with | some z, some l => lkpK z l k ok h | _, _ => none) = some (v, h1) → ∃ h2, (match mapT P T, mapOf u h' with | some z, some l => lkpK z l k ok h' | _, _ => none) = some (v, h2) := fun k e => by
          split at e
          · rename_i z l hz hl
            rw [hz, mapOf_same m hu hl]
            simp only
            unfold lkpK at e ⊢
            split at e <;> (cases e; simp [*])
          · cases e
        cases j with
        | int q k => cases q <;> first | exact key k e | (cases e; done)
        | _ => cases e
  | call c =>
    obtain ⟨callee, args, ts⟩ := c
    cases callee with
    | value f => simp [readOp, cvPure] at hr
    | invoke a b => simp [readOp, cvPure] at hr
    | builtin b =>
      cases b <;> first
        | (simp [readOp, cvPure] at hr; done)
        | (simp only [sCall] at e ⊢
           unfold sBi at e ⊢
           unfold unch at hu
           simp only at hu
           cases hl : opVs rg args.toList with
           | none => rw [hl] at e; cases e
           | some l =>
             rw [hl] at e hu
             have e : biV P .len ts l h = some (v, h1) := e
             show ∃ h2, biV P .len ts l h' = some (v, h2)
             cases hT : ts[0]? with
             | none =>
               have e0 : arg0 ts (fun T => one? l fun x => lenK (lnT P T) x h) = some (v, h1) := e
               unfold arg0 at e0; rw [hT] at e0; cases e0
             | some T =>
               have e0 : arg0 ts (fun T => one? l fun x => lenK (lnT P T) x h) = some (v, h1) := e
               show ∃ h2, arg0 ts (fun T => one? l fun x => lenK (lnT P T) x h') = some (v, h2)
               unfold arg0 at e0 ⊢
               rw [hT] at e0 ⊢
               match l, e0, hu with
               | [x], e0, hu => exact lenK_same m hu e0
               | [], e0, _ => cases e0
               | _ :: _ :: _, e0, _ => cases e0)
  | convert sT dT x =>
    have hcv : cvPure P (.convert sT dT x) = true := by simpa [readOp] using hr
    have hT : ∃ k, cvT P sT dT = .int k := by
      unfold cvPure at hcv
      unfold cvT
      simp only at hcv
      split at hcv
      · rename_i h1 h2; rw [h1, h2]; exact ⟨_, rfl⟩
      · cases hcv
    obtain ⟨k, hk⟩ := hT
    simp only at e ⊢
    unfold sCvt at e ⊢
    rw [hk] at e ⊢
    cases hx : opV rg x with
    | none => rw [hx] at e; cases e
    | some u =>
      rw [hx] at e
      cases u with
      | int q n => cases e; exact ⟨_, rfl⟩
      | _ => cases e
  | _ => simp [readOp, cvPure] at hr
end Go.Proofs.YthdaccndnfgeeaaGreatDoor.CM
