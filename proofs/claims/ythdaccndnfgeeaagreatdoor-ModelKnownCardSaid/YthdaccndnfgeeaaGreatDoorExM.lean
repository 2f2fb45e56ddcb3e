/- Maps made and turned; all operations together. No program in sight. -/
import Derived.Test.YthdaccndnfgeeaaGreatDoorEvZ
namespace Go.Proofs.YthdaccndnfgeeaaGreatDoor.CM
open Go
section
variable {P : Program} {ρ : Vl} {B : Nat} {w0 w : World} {h h' : Hp} {n : Nat} {rg : Rg} {a : Act} {call : Cl} {o : Oper} {v : V}
theorem mkm_sound (H : RH B w0 ρ h w) (T : TypeId) : Nx P (mkm T none) w (PV B w0 ρ (.map h.nx) (newB h (.map [] 0))) := by
  have hrun : (Instr.makeMap T none).run P w = .ok (.map (some (sz w))) (w.alloc (.map #[] 0)) := rfl
  exact Nx_val hrun ⟨_, H.new_ext (sz w, 0), H.alloc _ _ 0 (.map .i64 [] [] 0 0 .nil rfl), .map _ _ 0 (ρput_eq _ _ _)⟩
def setO (w : World) (r : Nat) (o : Obj) : World := { w with heap := w.heap.setIfInBounds r o }
theorem bk_setO {w : World} {r : Nat} {o : Obj} (hr : r < sz w) (b : Nat) : bk (setO w r o) b = if b = r then some o else bk w b := by
  unfold bk setO
  simp only [Array.getElem?_setIfInBounds]
  by_cases h : r = b
  · subst h; rw [if_pos rfl, if_pos rfl, if_pos (show r < w.heap.size from hr)]
  · rw [if_neg h, if_neg (Ne.symm h)]
theorem sz_setO {w : World} {r : Nat} {o : Obj} : sz (setO w r o) = sz w := by unfold sz setO; simp
theorem run_setObj {r : Nat} {o : Obj} {es : Array MapEntry} {c : Nat} (h : bk w r = some (.map es c)) : (setObj r o).run P w = .ok () (setO w r o) := by
  unfold setObj bk at *; simp only [Sem.run, h]; rfl
theorem run_getObj {r : Nat} {es : Array MapEntry} {c : Nat} (h : bk w r = some (.map es c)) : (getObj r).run P w = .ok (.map es c) w := by
  unfold getObj bk at *; simp only [Sem.run, h]
theorem RM.modify {k : Int} {u : V} {x : Value} (hx : RV ρ u x) : ∀ {l : List (Int × V)} {es : List MapEntry}, RM ρ .i64 l es → ∀ {j : Nat} {e : MapEntry}, es[j]? = some e → e.key = .int .i64 k → RM ρ .i64 (l.modify j (fun p => (p.1, u))) (es.modify j (fun e => { e with key := .int .i64 k, val := x }))
  | _, _, .nil, j, e, h, _ => by simp at h
  | _, _, .cons k' v l e' es hk hv h, 0, e, he, hke => by
    simp at he; subst he
    rw [hk] at hke; cases hke
    simp only [List.modify_zero_cons]
    exact .cons k u l _ es rfl hx h
  | _, _, .cons k' v l e' es hk hv h, j + 1, e, he, hke => by
    simp only [List.modify_succ_cons]
    exact .cons k' v _ e' _ hk hv (RM.modify hx h (by simpa using he) hke)
theorem RM.push {k : Int} {u : V} {x : Value} (hx : RV ρ u x) (b : Nat) : ∀ {l : List (Int × V)} {es : List MapEntry}, RM ρ .i64 l es → RM ρ .i64 (l ++ [(k, u)]) (es ++ [{ key := .int .i64 k, val := x, born := b }])
  | _, _, .nil => .cons k u [] _ [] rfl hx .nil
  | _, _, .cons k' v l e' es hk hv h => .cons k' v _ e' _ hk hv (RM.push hx b h)
theorem RM.erase : ∀ {l : List (Int × V)} {es : List MapEntry}, RM ρ .i64 l es → ∀ (j : Nat), RM ρ .i64 (l.eraseIdx j) (es.eraseIdx j)
  | _, _, .nil, j => .nil
  | _, _, .cons k' v l e' es hk hv h, 0 => h
  | _, _, .cons k' v l e' es hk hv h, j + 1 => .cons k' v _ e' _ hk hv (h.erase j)
theorem mpu_sound (H : RH B w0 ρ h w) {T : TypeId} {b : Bp} {k : Int} {u : V} {M X : Value} (hm : RV ρ (.map b) M) (hx : RV ρ u X) (e : updK (mapT P T) b k u h = some (v, h')) :
    Nx P (mpu T M (.int .i64 k) X) w (PV B w0 ρ v h') := by
  unfold updK at e
  split at e
  · rename_i zv l c hz hb
    obtain ⟨K, E, hT, hK, hzv⟩ := mapT_some hz
    obtain ⟨rfl, rfl⟩ := some_pair e
    cases hm with
    | map _ r g hρ =>
      obtain ⟨r', g', e2, hk⟩ := H.blk _ _ hb
      rw [hρ] at e2; cases e2
      generalize hw : bk w r = ob at hk
      cases hk with
      | map kk _ es clk clk' hM hk' =>
        subst hk'
        have hr := (H.low _ _ _ hρ).2
        have hck := pev_run (pev_checkKey hK false k) w
        have fin : ∀ (es' : Array MapEntry) (c' : Nat), RM ρ .i64 (mapSet l k u) es'.toList → (Instr.mapUpdate T (.map (some r)) (.int .i64 k) X).run P w = .ok () (setO w r (.map es' c')) → Nx P (mpu T (.map (some r)) (.int .i64 k) X) w (PV B w0 ρ undV (setB h b (.map (mapSet l k u) c))) := fun es' c' hM' hrun => by
          have e3 : (mpu T (.map (some r)) (.int .i64 k) X).run P w = .ok .skip (setO w r (.map es' c')) := by
            unfold mpu; simp only [Sem.run_bind, hrun, Result.andThen_ok, Sem.run_pure]
          refine ⟨?_⟩
          unfold NxD
          rw [e3]
          refine ⟨ρ, .refl _, H.turn hb (by simp) hρ (fun r' hr' => by rw [bk_setO hr, if_neg hr']) sz_setO rfl ?_, rv_undef⟩
          rw [bk_setO hr, if_pos rfl]
          have := RB.map (ρ := ρ) (g := g) .i64 (mapSet l k u) es'.toList c c' hM' rfl
          rw [Array.toArray_toList] at this
          exact this
        cases find_sound k hM 0 with
        | no h1 h2 h3 h4 =>
          refine fin (es.toArray.push { key := .int .i64 k, val := X, born := clk' }) (clk' + 1) ?_ ?_
          · rw [h3]; simpa using hM.push hx clk'
          · have hfk := pev_run (pev_findKey (es := es) hK h2) w
            unfold Instr.mapUpdate
            simp only [Sem.run_bind, run_underlying hT, Result.andThen_ok, run_getObj hw, hck, hfk, run_setObj hw]
        | yes j u' e' h1 h2 h3 hu hk' h5 h6 =>
          rw [Nat.zero_add] at h2
          refine fin (es.toArray.modify j (fun e => { e with key := .int .i64 k, val := X })) clk' ?_ ?_
          · rw [h5]
            have := RM.modify hx hM h3 hk'
            simpa using this
          · have hfk := pev_run (pev_findKey (es := es) hK h2) w
            have hkt : ((es.toArray[j]?).map (·.key)).getD (.int .i64 k) = .int .i64 k := by
              have : es.toArray[j]? = some e' := by simpa using h3
              rw [this]; exact hk'
            have hks : (Instr.keyThatStays (.int .i64 k) (.int .i64 k)).run P w = .ok (.int .i64 k) w := by
              have : ∀ d, Instr.sameBits d (.int .i64 k) (.int .i64 k) = true := fun d => by cases d <;> simp [Instr.sameBits]
              unfold Instr.keyThatStays
              rw [this, if_pos rfl]; rfl
            unfold Instr.mapUpdate
            simp only [Sem.run_bind, run_underlying hT, Result.andThen_ok, run_getObj hw, hck, hfk, hkt, hks, run_setObj hw]
  · cases e
theorem del_sound (H : RH B w0 ρ h w) {ts : Array TypeId} {T : TypeId} (h0 : ts[0]? = some T) (ty : TypeId) {m i : V} {M I : Value} (hm : RV ρ m M) (hi : RV ρ i I) (e : delV (mapT P T) m i h = some (v, h')) :
    Nx P (do pure (Next.value (← Builtin.delete_ ts ty #[M, I]))) w (PV B w0 ρ v h') := by
  unfold delV asMap at e
  split at e
  · rename_i b
    obtain ⟨k, rfl, e2⟩ := i64K_some e
    clear e
    have e := e2
    clear e2
    unfold delK at e
    split at e
    · rename_i zv l c hz hb
      obtain ⟨K, E, hT, hK, hzv⟩ := mapT_some hz
      obtain ⟨rfl, rfl⟩ := some_pair e
      rw [rv_int hi]
      cases hm with
      | map _ r g hρ =>
        obtain ⟨r', g', e2, hk⟩ := H.blk _ _ hb
        rw [hρ] at e2; cases e2
        generalize hw : bk w r = ob at hk
        cases hk with
        | map kk _ es clk clk' hM hk' =>
          subst hk'
          have hr := (H.low _ _ _ hρ).2
          have hck := pev_run (pev_checkKey hK es.toArray.isEmpty k) w
          have fin : ∀ (es' : Array MapEntry) (c' : Nat), RM ρ .i64 (mapDel l k) es'.toList → (Builtin.delete_ ts ty #[.map (some r), .int .i64 k]).run P w = .ok (.tuple #[]) (setO w r (.map es' c')) → Nx P (do pure (Next.value (← Builtin.delete_ ts ty #[.map (some r), .int .i64 k]))) w (PV B w0 ρ undV (setB h b (.map (mapDel l k) c))) := fun es' c' hM' hrun => by
            refine Nx_val hrun ⟨ρ, .refl _, H.turn hb (by simp) hρ (fun r' hr' => by rw [bk_setO hr, if_neg hr']) sz_setO rfl ?_, rv_undef⟩
            rw [bk_setO hr, if_pos rfl]
            have := RB.map (ρ := ρ) (g := g) .i64 (mapDel l k) es'.toList c c' hM' rfl
            rw [Array.toArray_toList] at this
            exact this
          cases find_sound k hM 0 with
          | no h1 h2 h3 h4 =>
            refine fin es.toArray clk' (by rw [h4]; exact hM) ?_
            have hfk := pev_run (pev_findKey (es := es) hK h2) w
            unfold Builtin.delete_
            simp only [h0, List.getElem?_toArray, List.getElem?_cons_zero, List.getElem?_cons_succ, Sem.run_bind, run_underlying hT, Result.andThen_ok, run_getObj hw, hck, hfk, run_setObj hw, Sem.run_pure]
          | yes j u' e' h1 h2 h3 hu hk' h5 h6 =>
            rw [Nat.zero_add] at h2
            refine fin (es.toArray.eraseIdxIfInBounds j) clk' ?_ ?_
            · rw [h6]
              have := hM.erase j
              simpa using this
            · have hfk := pev_run (pev_findKey (es := es) hK h2) w
              unfold Builtin.delete_
              simp only [h0, List.getElem?_toArray, List.getElem?_cons_zero, List.getElem?_cons_succ, Sem.run_bind, run_underlying hT, Result.andThen_ok, run_getObj hw, hck, hfk, run_setObj hw, Sem.run_pure]
    · cases e
  · cases e

/-! ### Each operation -/
theorem isI64 {x : Value} {i : Int} (h : RV ρ (.int .i64 i) x) : x = .int .i64 i := rv_int h
theorem ex_bsl (H : RH B w0 ρ h w) (R : RR ρ n rg a) {T : TypeId} {k : Nat} {ps : Array (Nat × Operand)} (hop : o.op = .buildSlice T k ps) (he : exR P call rg o h = some (v, h')) : vcOp P o a w (PV B w0 ρ v h') := by
  refine vc_loud (by rw [hop]; rfl) (by rw [hop]; rfl) (by simp [hop]) ?_
  have e : semR (evA a) o = bsl T k ⟨mapP (evA a) ps.toList⟩ := by simp only [semR, hop]; rfl
  rw [e]
  simp only [exR, exO, hop] at he
  have he : withP (partsV rg ps.toList) (fun ps => bslK (elE P T) k ps h) = some (v, h') := he
  cases hp : partsV rg ps.toList with
  | none => rw [hp] at he; cases he
  | some qs => rw [hp] at he; exact bsl_sound H (partsV_sound R hp) he
theorem ex_mks (H : RH B w0 ρ h w) (R : RR ρ n rg a) {T : TypeId} {l c : Operand} (hop : o.op = .makeSlice T l c) (he : exR P call rg o h = some (v, h')) : vcOp P o a w (PV B w0 ρ v h') := by
  refine vc_loud (by rw [hop]; rfl) (by rw [hop]; rfl) (by simp [hop]) ?_
  have e : semR (evA a) o = mks T (evA a l) (evA a c) := by simp only [semR, hop, execOp]; rfl
  rw [e]
  simp only [exR, exO, hop] at he
  obtain ⟨u, t, hu, ht, he1⟩ := with2_some he
  obtain ⟨k1, j1, rfl, he2⟩ := asNat_some he1
  obtain ⟨k2, j2, rfl, he3⟩ := asNat_some he2
  rw [rv_int (opV_sound R hu), rv_int (opV_sound R ht)]
  exact mks_sound H he3
theorem ex_cvt (H : RH B w0 ρ h w) (R : RR ρ n rg a) {s d : TypeId} {x : Operand} (hop : o.op = .convert s d x) (he : exR P call rg o h = some (v, h')) : vcOp P o a w (PV B w0 ρ v h') := by
  refine vc_loud (by rw [hop]; rfl) (by rw [hop]; rfl) (by simp [hop]) ?_
  have e : semR (evA a) o = cvt s d (evA a x) := by simp only [semR, hop, execOp]; rfl
  rw [e]
  simp only [exR, exO, hop] at he
  obtain ⟨u, hu, he1⟩ := with1_some he
  exact conv_sound H (opV_sound R hu) he1
theorem ex_a2p (H : RH B w0 ρ h w) (R : RR ρ n rg a) {T : TypeId} {x : Operand} (hop : o.op = .sliceToArrayPointer T x) (he : exR P call rg o h = some (v, h')) : vcOp P o a w (PV B w0 ρ v h') := by
  refine vc_loud (by rw [hop]; rfl) (by rw [hop]; rfl) (by simp [hop]) ?_
  have e : semR (evA a) o = a2p T (evA a x) := by simp only [semR, hop, execOp]; rfl
  rw [e]
  simp only [exR, exO, hop] at he
  obtain ⟨u, hu, he1⟩ := with1_some he
  obtain ⟨h1, rfl⟩ := a2p_sound (opV_sound R hu) he1
  exact Rd.nx (Pu.rd (h1.pv H))
theorem ex_mkm (H : RH B w0 ρ h w) {T : TypeId} {r : Option Operand} (hop : o.op = .makeMap T r) (he : exR P call rg o h = some (v, h')) : vcOp P o a w (PV B w0 ρ v h') := by
  refine vc_loud (by rw [hop]; rfl) (by rw [hop]; rfl) (by simp [hop]) ?_
  simp only [exR, exO, hop] at he
  cases r with
  | some r => cases he
  | none =>
    have e : semR (evA a) o = mkm T none := by simp only [semR, hop, execOp]; rfl
    rw [e]
    obtain ⟨rfl, rfl⟩ := some_pair he
    exact mkm_sound H T
theorem ex_lkp (H : RH B w0 ρ h w) (R : RR ρ n rg a) {T : TypeId} {x i : Operand} {ok : Bool} (hop : o.op = .lookup T x i ok) (he : exR P call rg o h = some (v, h')) : vcOp P o a w (PV B w0 ρ v h') := by
  refine vc_read (by rw [hop]; rfl) (by rw [hop]; rfl) ?_
  have e : semR (evA a) o = lkp T (evA a x) (evA a i) ok := by simp only [semR, hop, execOp]; rfl
  rw [e]
  simp only [exR, exO, hop] at he
  obtain ⟨u, t, hu, ht, he1⟩ := with2_some he
  obtain ⟨h1, rfl⟩ := lkp_sound H (opV_sound R hu) (opV_sound R ht) he1
  exact h1.pv H
theorem ex_mpu (H : RH B w0 ρ h w) (R : RR ρ n rg a) {T : TypeId} {m k x : Operand} (hop : o.op = .mapUpdate T m k x) (he : exR P call rg o h = some (v, h')) : vcOp P o a w (PV B w0 ρ v h') := by
  refine vc_loud (by rw [hop]; rfl) (by rw [hop]; rfl) (by simp [hop]) ?_
  have e : semR (evA a) o = mpu T (evA a m) (evA a k) (evA a x) := by simp only [semR, hop, execOp]; rfl
  rw [e]
  simp only [exR, exO, hop] at he
  obtain ⟨u, t, hu, ht, he1⟩ := with2_some he
  have R1 := opV_sound R hu
  cases u <;> first | (cases he1; done) | skip
  case map b =>
    have he1 : i64K t (fun k => with1 (opV rg x) fun v => updK (mapT P T) b k v h) = some (v, h') := he1
    obtain ⟨i, rfl, he2⟩ := i64K_some he1
    obtain ⟨y, hy, he3⟩ := with1_some he2
    rw [rv_int (opV_sound R ht)]
    exact mpu_sound H R1 (opV_sound R hy) he3
theorem two_some {l : List V} {k : V → V → Res} {x : V × Hp} (e : two? l k = some x) : ∃ p q, l = [p, q] ∧ k p q = some x := by
  unfold two? at e
  split at e
  · exact ⟨_, _, rfl, e⟩
  · cases e
theorem one_some {l : List V} {k : V → Res} {x : V × Hp} (e : one? l k = some x) : ∃ p, l = [p] ∧ k p = some x := by
  unfold one? at e
  split at e
  · exact ⟨_, rfl, e⟩
  · cases e
theorem arg0_some {ts : Array TypeId} {k : TypeId → Res} {x : V × Hp} (e : arg0 ts k = some x) : ∃ T, ts[0]? = some T ∧ k T = some x := by
  unfold arg0 at e
  split at e
  · exact ⟨_, by assumption, e⟩
  · cases e
theorem ex_bi (H : RH B w0 ρ h w) (R : RR ρ n rg a) {b : Builtin} {args : Array Operand} {ts : Array TypeId} (hop : o.op = .call { callee := .builtin b, args, argTypes := ts }) (he : exR P call rg o h = some (v, h')) : vcOp P o a w (PV B w0 ρ v h') := by
  have e : semR (evA a) o = builtin b ts o.type ⟨mapC args.toList⟩ ⟨mapV (evA a) args.toList⟩ := by simp only [semR, hop]
  simp only [exR, exO, hop] at he
  have he : sBi P b ts args.toList call rg h = some (v, h') := he
  obtain ⟨l, hl, he1⟩ := withs_some he
  have Rs := opVs_sound R hl
  clear he
  unfold biV at he1
  have two : ∀ {p q : V}, l = [p, q] → ∃ X Y, mapV (evA a) args.toList = [X, Y] ∧ RV ρ p X ∧ RV ρ q Y := fun {p q} hl => by
    subst hl
    generalize mapV (evA a) args.toList = xs at Rs
    cases Rs with
    | cons _ X _ xs h1 h2 => cases h2 with
      | cons _ Y _ xs h2 h3 => cases h3; exact ⟨X, Y, rfl, h1, h2⟩
  have one : ∀ {p : V}, l = [p] → ∃ X, mapV (evA a) args.toList = [X] ∧ RV ρ p X := fun {p} hl => by
    subst hl
    generalize mapV (evA a) args.toList = xs at Rs
    cases Rs with
    | cons _ X _ xs h1 h2 => cases h2; exact ⟨X, rfl, h1⟩
  split at he1
  · obtain ⟨T, h0, he2⟩ := arg0_some he1
    obtain ⟨p, hp, he3⟩ := one_some he2
    obtain ⟨X, hX, h1⟩ := one hp
    refine vc_read (by rw [hop]; rfl) (by rw [hop]; rfl) ?_
    rw [e, hX]
    obtain ⟨h2, rfl⟩ := len_sound H h0 o.type h1 he3
    exact h2.pv H
  · obtain ⟨T, h0, he2⟩ := arg0_some he1
    obtain ⟨p, q, hp, he3⟩ := two_some he2
    obtain ⟨X, Y, hX, h1, h2⟩ := two hp
    refine vc_loud (by rw [hop]; rfl) (by rw [hop]; rfl) (by simp [hop]) ?_
    rw [e, hX]
    exact app_sound H h0 o.type h1 h2 he3
  · obtain ⟨T, h0, he2⟩ := arg0_some he1
    obtain ⟨p, q, hp, he3⟩ := two_some he2
    obtain ⟨X, Y, hX, h1, h2⟩ := two hp
    refine vc_loud (by rw [hop]; rfl) (by rw [hop]; rfl) (by simp [hop]) ?_
    rw [e, hX]
    exact cpy_sound H h0 o.type h1 h2 he3
  · obtain ⟨T, h0, he2⟩ := arg0_some he1
    obtain ⟨p, q, hp, he3⟩ := two_some he2
    obtain ⟨X, Y, hX, h1, h2⟩ := two hp
    refine vc_loud (by rw [hop]; rfl) (by rw [hop]; rfl) (by simp [hop]) ?_
    rw [e, hX]
    exact del_sound H h0 o.type h1 h2 he3
  · obtain ⟨p, q, hp, he3⟩ := two_some he1
    obtain ⟨X, Y, hX, h1, h2⟩ := two hp
    refine vc_pure (by rw [hop]; rfl) (by simp [hop]) (by simp [hop]) (by simp [hop]) ?_
    rw [e, hX]
    obtain ⟨h3, rfl⟩ := min_sound (P := P) (ts := ts) (ty := o.type) h1 h2 he3
    exact h3.pv H
  · obtain ⟨p, q, hp, he3⟩ := two_some he1
    obtain ⟨X, Y, hX, h1, h2⟩ := two hp
    refine vc_pure (by rw [hop]; rfl) (by simp [hop]) (by simp [hop]) (by simp [hop]) ?_
    rw [e, hX]
    obtain ⟨h3, rfl⟩ := max_sound (P := P) (ts := ts) (ty := o.type) h1 h2 he3
    exact h3.pv H
  · cases he1
theorem ex_all (hc : CallOk P rg.g B w0 call) (H : RH B w0 ρ h w) (R : RR ρ n rg a) (he : exR P call rg o h = some (v, h')) : vcOp P o a w (PV B w0 ρ v h') := by
  cases hop : o.op
  case move x => exact ex_move H R (.inl hop) he
  case assign x => exact ex_move H R (.inr hop) he
  case pick c x y => exact ex_pk H R hop he
  case binOp op T x y T' =>
    by_cases h1 : op = .eql
    · exact ex_eq H R hop (.inl h1) he
    · by_cases h2 : op = .neq
      · exact ex_eq H R hop (.inr h2) he
      · exact ex_bin H R hop ⟨h1, h2⟩ he
  case unOp => exact ex_un H R hop he
  case load => exact ex_ld H R hop he
  case store => exact ex_st H R hop he
  case alloc => exact ex_al H hop he
  case box => exact ex_bx H R hop he
  case build => exact ex_bld H R hop he
  case buildSlice => exact ex_bsl H R hop he
  case nilCheck => exact ex_nc H R hop he
  case fieldAddr => exact ex_fa H R hop he
  case field => exact ex_fld H R hop he
  case indexAddr => exact ex_ixa H R hop he
  case index => exact ex_ixv H R hop he
  case extract => exact ex_ext H R hop he
  case slice => exact ex_slc H R hop he
  case makeFunc => exact ex_mkf H R hop he
  case makeSlice => exact ex_mks H R hop he
  case convert => exact ex_cvt H R hop he
  case makeMap => exact ex_mkm H hop he
  case lookup => exact ex_lkp H R hop he
  case mapUpdate => exact ex_mpu H R hop he
  case sliceToArrayPointer => exact ex_a2p H R hop he
  case call c =>
    obtain ⟨callee, args, ts⟩ := c
    cases callee with
    | value f => exact ex_callV hc H R hop he
    | builtin b => exact ex_bi H R hop he
    | invoke _ _ => simp only [exR, exO, hop] at he; cases he
  all_goals (simp only [exR, exO, hop] at he; cases he)
end
end Go.Proofs.YthdaccndnfgeeaaGreatDoor.CM
