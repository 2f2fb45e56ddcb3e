/- Append, copy, make: sound. No program in sight. -/
import Derived.Test.YthdaccndnfgeeaaGreatDoorEvN
namespace Go.Proofs.YthdaccndnfgeeaaGreatDoor.CM
open Go
section
variable {P : Program} {ρ : Vl} {B : Nat} {w0 w : World} {h h' : Hp} {n : Nat} {rg : Rg} {a : Act} {call : Cl} {o : Oper} {v : V}
theorem RH.drew (H : RH B w0 ρ h w) : RH B w0 ρ h w.drew := H.cong (fun _ => rfl) rfl rfl
theorem RH.kill (H : RH B w0 ρ h w) {b : Bp} {r g : Nat} {k : Bk} (hb : h.blk b = some k) (hl : k ≠ .dead) (hρ : ρ b = some (r, g)) : RH B w0 ρ (setB h b .dead) w :=
  H.turn hb hl hρ (fun _ _ => rfl) rfl rfl (.dead _)
theorem rdev_drew {α : Type} (s : Sem α) (w : World) : rdev P s w.drew = rdev P s w := by
  induction s with
  | pure a => rfl
  | program k ih => exact ih _
  | mark m k ih => exact ih
  | load m a k ih =>
    simp only [rdev]
    rw [show w.drew.cell? a = w.cell? a from rfl]
    cases w.cell? a with
    | none => rfl
    | some v => exact ih v
  | getObj r k ih =>
    simp only [rdev]
    rw [show w.drew.heap = w.heap from rfl]
    cases w.heap[r]? with
    | none => rfl
    | some o => cases o <;> first | rfl | exact ih _
  | shape r k ih => exact ih _
  | frozen a k ih => exact ih _
  | _ => rfl
/-- Another name for a block that no live one names. -/
theorem RH.rename (H : RH B w0 ρ h w) {r g : Nat} {k : Bk} (hno : ∀ a g', ρ a = some (r, g') → ¬ Liv h a) (hKn : ρ.K r = none) (hr : B ≤ r ∧ r < sz w) (hk : RB ρ g k (bk w r)) : RH B w0 (ρput ρ h.nx (r, g)) (newB h k) w := by
  have ext := H.new_ext (r, g)
  have key : ∀ {c : Bp} {x}, ρput ρ h.nx (r, g) c = some x → (c = h.nx ∧ x = (r, g)) ∨ (c ≠ h.nx ∧ ρ c = some x) := fun {c x} hc => by
    by_cases e : c = h.nx
    · subst e; rw [ρput_eq] at hc; cases hc; exact .inl ⟨rfl, rfl⟩
    · rw [ρput_ne _ _ _ e] at hc; exact .inr ⟨e, hc⟩
  have lv : ∀ {c : Bp}, c ≠ h.nx → Liv (newB h k) c → Liv h c := fun {c} e ⟨k', h1, h2⟩ => ⟨k', by rw [blk_new, if_neg (Ne.symm e)] at h1; exact h1, h2⟩
  refine ⟨fun b k' hb => ?_, fun a b r' g1 g2 ha hb la lb => ?_, fun b x hb => ?_, fun b r' g' hb => ?_, H.old, H.size, H.ro, H.io, fun r' o' hr' => ?_⟩
  · rw [blk_new] at hb
    split at hb
    · rename_i e; subst e; cases hb
      exact ⟨r, g, ρput_eq _ _ _, hk.mono ext⟩
    · obtain ⟨r', g', h1, h2⟩ := H.blk b k' hb
      exact ⟨r', g', ext.2 _ _ h1, h2.mono ext⟩
  · rcases key ha with ⟨rfl, ea⟩ | ⟨na, ha'⟩ <;> rcases key hb with ⟨rfl, eb⟩ | ⟨nb, hb'⟩
    · rfl
    · cases ea; exact absurd (lv nb lb) (hno _ _ hb')
    · cases eb; exact absurd (lv na la) (hno _ _ ha')
    · exact H.inj a b r' g1 g2 ha' hb' (lv na la) (lv nb lb)
  · show b.num < h.nx.succ.num
    rw [Bp.num_succ]
    rcases key hb with ⟨rfl, _⟩ | ⟨_, hb⟩
    · omega
    · have := H.fresh _ _ hb; omega
  · rcases key hb with ⟨_, e⟩ | ⟨_, hb⟩
    · cases e; exact hr
    · exact H.low _ _ _ hb
  · obtain ⟨q0, q1, q2, q3⟩ := H.kp r' o' hr'
    refine ⟨q0, q1, q2, fun b g' hb => ?_⟩
    rcases key hb with ⟨_, e⟩ | ⟨_, hb⟩
    · cases e; have h9 : ρ.K r = some o' := hr'; rw [hKn] at h9; cases h9
    · exact q3 _ _ hb
theorem RH.notK (H : RH B w0 ρ h w) {b : Bp} {r g : Nat} (hρ : ρ b = some (r, g)) : ρ.K r = none := by
  cases hk : ρ.K r with
  | none => rfl
  | some o => exact absurd hρ ((H.kp r o hk).2.2.2 b g)
theorem Nx_val {s : Sem Value} {x : Value} {w' : World} (h : s.run P w = .ok x w') {K : Value → World → Prop} (hK : K x w') : Nx P (do pure (Next.value (← s))) w K := by
  rw [Nx_of_run (v := x) (w' := w') (by simp only [Sem.run_bind, h, Result.andThen_ok, Sem.run_pure])]
  exact hK
variable {T : TypeId} {ts : Array TypeId} {z bytes : Nat} {E : TypeId} {i : TypeInfo} {zv : Value}
theorem app_same (h0 : ts[0]? = some T) (A : ApT P T ts[1]? z bytes E i zv) (ty : TypeId) {X : Value} {base : Option Addr} {sLen sCap : Nat} (hm : pev P (Builtin.lenOf X) = some 0) (hn : rdev P (Builtin.firstCells z 0 X) w = some #[]) (hfit : sLen ≤ sCap) :
    (Builtin.append_ ts ty #[.slice base sLen sCap, X]).run P w = .ok (.slice base sLen sCap) w := by
  have hm' := pev_run hm w
  have hn' := rdev_run hn
  have hsz := A.size
  subst hsz
  have hst : ∀ (a : Addr) (w : World), (storeCells a []).run P w = .ok () w := fun a w => rfl
  have hemp : (#[] : Array Value).toList = [] := rfl
  unfold Builtin.append_
  cases hX : ts[1]? with
  | none =>
    cases base <;> simp only [h0, hX, List.getElem?_toArray, List.getElem?_cons_zero, List.getElem?_cons_succ, Sem.run_bind, run_underlying A.sl, Result.andThen_ok, sizeOf, typeInfo, program, Sem.run, A.info, Sem.run_pure,
      Bool.false_eq_true, if_false, hm', Nat.add_zero, hfit, if_true, Bool.not_false, hn', hemp, hst]
  | some t =>
    obtain ⟨d, hd, hdm⟩ := A.x t hX
    simp only [h0, hX, List.getElem?_toArray, List.getElem?_cons_zero, List.getElem?_cons_succ, Sem.run_bind, run_underlying A.sl, run_underlying hd, Result.andThen_ok, run_sizeOf A.info, Sem.run_pure]
    split
    · cases hdm
    · cases base <;> simp only [Bool.false_eq_true, if_false, Sem.run_bind, Sem.run_pure, Result.andThen_ok, hm', Nat.add_zero, hfit, if_true, Bool.not_false, hn', hemp, hst]
theorem zero_all (A : ApT P T ts[1]? z bytes E i zv) (k : Nat) : (Builtin.zeroCells zv.cells k).toList.length = k * z ∧ (Builtin.zeroCells zv.cells k).toList.all scalarV = true := by
  have hz := A.zsz
  have hp := A.pos
  refine ⟨by rw [Array.length_toList, size_zeroCells, hz], ?_⟩
  unfold Builtin.zeroCells
  rw [List.all_eq_true]
  intro x hx
  simp only [Array.toList_map, List.mem_map, Array.toList_range, List.mem_range] at hx
  obtain ⟨j, _, rfl⟩ := hx
  have hlt : j % zv.cells.size < zv.cells.size := Nat.mod_lt _ (by omega)
  rw [getElem!_pos zv.cells _ hlt]
  have := A.zsc
  rw [List.all_eq_true] at this
  exact this _ (by simp)
/-- The new block of an append. -/
theorem grow_rb (A : ApT P T ts[1]? z bytes E i zv) {es : List V} {ys : List Value} (hy : RVs ρ (cats es) ys) (hyz : ∀ e ∈ es, (celV e).length = z) (hys : ys.all scalarV = true) {g : Nat} (hg : es.length ≤ g) {w2 : World} :
    RB ρ g (.grow es z) (some (cl (ys ++ (Builtin.zeroCells zv.cells (g - es.length)).toList) E)) := by
  obtain ⟨h1, h2⟩ := zero_all A (g - es.length)
  have hyl := hy.len
  rw [cats_len hyz] at hyl
  refine .grow _ _ _ _ _ hy hyz (by rw [List.all_append, hys, h2]; rfl) ?_ hg (0, 0) (.inl ⟨rfl, rfl⟩)
  rw [List.length_append, h1, ← hyl, ← Nat.add_mul]; congr 1; omega
theorem lenV_slice {s : V} {S : Value} {k : Nat} (hs : RV ρ s S) (e : lenV s = some k) (hn : ∀ b, s ≠ .str b) : ∃ base c, S = .slice base k c := by
  cases hs <;> simp only [lenV, Option.some.injEq, reduceCtorEq] at e <;> first
    | (subst e; exact ⟨_, _, rfl⟩)
    | exact absurd rfl (hn _)
    | (rw [lenL_eq] at e; subst e; exact ⟨_, _, rfl⟩)
theorem app_sound (H : RH B w0 ρ h w) (h0 : ts[0]? = some T) (ty : TypeId) {s x : V} {S X : Value} (hs : RV ρ s S) (hx : RV ρ x X) (e : appV P T ts[1]? s x h = some (v, h')) :
    Nx P (do pure (Next.value (← Builtin.append_ ts ty #[S, X]))) w (PV B w0 ρ v h') := by
  unfold appV at e
  split at e
  · cases e
  · rename_i z bytes hE
    obtain ⟨E, i, zv, A⟩ := appE_some hE
    unfold appK at e
    split at e
    · cases e
    · rename_i new hnew
      rw [lenL_eq] at e
      obtain ⟨ys, hy, hyz, hys, hlen, hfirst⟩ := elems_sound (P := P) H hx hnew
      have hyl := hy.len
      rw [cats_len hyz] at hyl
      have hall : ∀ (l : List Value), l.length = new.length * z → l.take (new.length * z) = l := fun l hl => List.take_of_length_le (by omega)
      split at e
      · -- nothing is appended
        rename_i hm
        rw [hm] at hlen
        have hn0 : rdev P (Builtin.firstCells z 0 X) w = some #[] := by
          have := hfirst 0 (by omega); simpa using this
        split at e
        · obtain ⟨rfl, rfl⟩ := some_pair e
          cases hs
          exact Nx_val (app_same h0 A ty hlen hn0 (Nat.le_refl _)) (.same H .nils)
        · rename_i b q k c
          split at e
          · rename_i hkc
            obtain ⟨rfl, rfl⟩ := some_pair e
            have hs0 := hs
            cases hs
            exact Nx_val (app_same h0 A ty hlen hn0 (Nat.le_of_ble_eq_true hkc)) (.same H hs0)
          · cases e
        · rename_i b q k c
          obtain ⟨rfl, rfl⟩ := some_pair e
          have hs0 := hs
          cases hs
          exact Nx_val (app_same h0 A ty hlen hn0 (by omega)) (.same H hs0)
        · cases e
      · rename_i m hm0
        have hpos : 0 < new.length := Nat.pos_of_ne_zero hm0
        split at e
        · cases e
        · rename_i hroom
          have hfw : rdev P (Builtin.firstCells z new.length X) w = some ys.toArray := by rw [hfirst _ (Nat.le_refl _), hall ys hyl.symm]
          have hfd : rdev P (Builtin.firstCells z new.length X) w.drew = some ys.toArray := by rw [rdev_drew]; exact hfw
          split at e
          · -- nil
            obtain ⟨rfl, rfl⟩ := some_pair e
            cases hs
            have hr : roomB (0 + new.length) bytes = true := hroom
            have hrun := app_grow (base := none) (sLen := 0) (sCap := 0) (xs := []) h0 A ty rfl hlen hfd (by simp [Builtin.firstCells, rdev_pure]) (by omega) hr
            refine Nx_val hrun ?_
            have hge := grownCap_ge w (0 + new.length) 0 E
            generalize grownCap w (0 + new.length) 0 E = g at *
            rw [Nat.zero_add] at hge ⊢
            refine ⟨_, H.drew.new_ext (sz w.drew, g), H.drew.alloc _ _ g (grow_rb (w2 := w) A hy hyz hys hge), ?_⟩
            exact .sg _ _ _ _ _ g 0 (ρput_eq _ _ _) (.inl rfl) (by omega)
          · rename_i b q k c
            have hs0 := hs
            cases hs with
            | sl _ _ _ _ r g hρ =>
              split at e
              · rename_i hfit
                have hfit : k + new.length ≤ c := Nat.le_of_ble_eq_true hfit
                split at e
                · rename_i h2 hp
                  obtain ⟨rfl, rfl⟩ := some_pair e
                  obtain ⟨cs, E', fr, g1, g2, g3, g4⟩ := putEls_sound H hρ hy hyz hys hp
                  exact Nx_val (app_room h0 A ty hlen hfw hfit g1 g2 g3 hys) ⟨ρ, .refl _, g4, .sl _ _ _ _ r g hρ⟩
                · cases e
              · rename_i hfit
                have hfit : ¬ k + new.length ≤ c := fun hle => by rw [show Nat.ble (Nat.add k new.length) c = true from Nat.ble_eq_true_of_le hle] at hfit; cases hfit
                split at e
                · rename_i old hold
                  obtain ⟨rfl, rfl⟩ := some_pair e
                  obtain ⟨xs, hxx, hxz, hxs, hxlen, hxf⟩ := elems_sound (P := P) H hs0 hold
                  have hol : old.length = k := by
                    simp only [Builtin.lenOf, pev_pure, Option.some.injEq] at hxlen; exact hxlen.symm
                  have hxl := hxx.len
                  rw [cats_len hxz, hol] at hxl
                  have hfo : rdev P (Builtin.firstCells z k (.slice (some ⟨r, q, none⟩) k c)) w.drew = some xs.toArray := by
                    rw [rdev_drew, hxf k (by omega), List.take_of_length_le (by omega)]
                  have hrun := app_grow h0 A ty rfl hlen hfd hfo hfit hroom
                  refine Nx_val hrun ?_
                  have hge := grownCap_ge w (k + new.length) c E
                  generalize grownCap w (k + new.length) c E = g' at *
                  have hrb := grow_rb (ρ := ρ) (w2 := w) (es := old ++ new) (ys := xs ++ ys) (g := g') A (by rw [cats_app]; exact hxx.app hy) (fun e he => by rcases List.mem_append.1 he with he | he; exact hxz e he; exact hyz e he) (by rw [List.all_append, hxs, hys]; rfl) (by rw [List.length_append, hol]; exact hge)
                  rw [List.length_append, hol] at hrb
                  rw [appL_eq]
                  exact ⟨_, H.drew.new_ext (sz w.drew, g'), H.drew.alloc _ _ g' hrb, .sg _ _ _ _ _ g' 0 (ρput_eq _ _ _) (.inl rfl) (by show 0 + (k + new.length) ≤ g'; omega)⟩
                · cases e
          · rename_i b q k k0
            split at e
            · rename_i es z' hb
              split at e
              · cases e
              · rename_i hzz
                have hzz := Nat.eq_of_beq_eq_true hzz
                subst hzz
                split at e
                · cases e
                · rename_i hq
                  have hq : q = k0 * z := Nat.eq_of_beq_eq_true hq
                  cases hs with
                  | sg _ _ _ _ r g o' hρ ho hkg =>
                    obtain ⟨cs, post, E', fr, g1, g2, g3, g4, g5, g6, _⟩ := blk_row H hρ (.inr hb)
                    obtain ⟨g7, g8⟩ := g6 hb
                    have g4' : cs.all scalarV = true ∧ post.all scalarV = true := by rw [List.all_append, Bool.and_eq_true] at g4; exact g4
                    have gl := g2.len
                    rw [cats_len g3] at gl
                    have hbr := H.low _ _ _ hρ
                    obtain ⟨k1, hk1⟩ : ∃ k1, k1 = k0 := ⟨_, rfl⟩
                    split at e
                    · rename_i _ hkn
                      clear hk1
                      have hkn := Nat.eq_of_beq_eq_true hkn
                      rw [lenL_eq] at hkn
                      have hkn : 0 + k = es.length := hkn
                      obtain ⟨rfl, rfl⟩ := some_pair e
                      rw [Nat.zero_mul] at hq
                      subst hq
                      rw [appL_eq]
                      have hez : ∀ e ∈ es ++ new, (celV e).length = z := fun e he => by rcases List.mem_append.1 he with he | he; exact g3 e he; exact hyz e he
                      have hcl : cs.length = k * z := by rw [← gl, ← hkn, Nat.zero_add]
                      by_cases hfit : k + new.length ≤ g - 0
                      · have : o' = 0 := ho.resolve_right (by omega)
                        subst this
                        have hle : 0 + k * z + ys.length ≤ (cs ++ post).length := by rw [g7, ← hyl, Nat.zero_add, ← Nat.add_mul]; exact Nat.mul_le_mul_right _ (by omega)
                        have hfr : fr.2 ≤ 0 + k * z ∨ 0 + k * z + ys.length ≤ fr.1 := by rcases g5 with g5 | g5 <;> omega
                        refine Nx_val (app_room h0 A ty hlen hfw hfit g1 hle hfr hys) ?_
                        rw [Nat.zero_add] at hle ⊢
                        have hspl : spl (cs ++ post) (k * z) ys = (cs ++ ys) ++ post.drop ys.length := by
                          unfold spl
                          rw [List.take_append_of_le_length (by omega), List.take_of_length_le (by omega), List.drop_append, List.drop_of_length_le (by omega), List.nil_append, hcl, Nat.add_sub_cancel_left]
                        have hT : RH B w0 ρ (setB h b .dead) (wr w r (spl (cs ++ post) (k * z) ys)) :=
                          H.turn hb (by simp) hρ (fun r' hr' => by rw [bk_wr, if_neg hr']) (sz_wr ..) rfl (.dead _)
                        have hno : ∀ a g', ρ a = some (r, g') → ¬ Liv (setB h b .dead) a := fun a g' ha hl => by
                          obtain ⟨k2, h1, h2⟩ := hl
                          rw [blk_put] at h1
                          split at h1
                          · cases h1; exact h2 rfl
                          · rename_i hne
                            exact hne (H.inj b a r g g' hρ ha ⟨_, hb, by simp⟩ ⟨k2, h1, h2⟩)
                        refine ⟨_, hT.new_ext (r, g), hT.rename hno (H.notK hρ) ⟨hbr.1, by rw [sz_wr]; exact hbr.2⟩ ?_, .sg _ _ _ _ r g 0 (ρput_eq _ _ _) (.inl rfl) (by show 0 + (k + new.length) ≤ g; omega)⟩
                        rw [bk_wr_self g1, hspl]
                        refine .grow _ _ _ _ _ (by rw [cats_app]; exact g2.app hy) hez ?_ ?_ (by rw [List.length_append]; omega) fr ?_
                        · rw [List.all_append, List.all_append, g4'.1, hys, all_drop g4'.2]; rfl
                        · rw [← hspl, spl_len hle]; exact g7
                        · rw [← hspl, spl_len hle]; exact g5
                      · have hfo : rdev P (Builtin.firstCells z k (.slice (some ⟨r, o', none⟩) k (g - 0))) w.drew = some cs.toArray := by
                          rw [rdev_drew]
                          rcases Nat.eq_zero_or_pos k with rfl | hk
                          · rw [rdev_first0]
                            have : cs = [] := List.eq_nil_of_length_eq_zero (by omega)
                            rw [this]
                          · have : o' = 0 := ho.resolve_right (by omega)
                            subst this
                            rw [rdev_first g1 (by rw [List.length_append]; omega), List.drop_zero, List.take_append_of_le_length (by omega), List.take_of_length_le (by omega)]
                        refine Nx_val (app_grow h0 A ty rfl hlen hfd hfo hfit hroom) ?_
                        have hge := grownCap_ge w (k + new.length) (g - 0) E
                        generalize grownCap w (k + new.length) (g - 0) E = g' at *
                        have hrb := grow_rb (ρ := ρ) (w2 := w) (es := es ++ new) (ys := cs ++ ys) (g := g') A (by rw [cats_app]; exact g2.app hy) hez (by rw [List.all_append, g4'.1, hys]; rfl) (by rw [List.length_append]; omega)
                        rw [List.length_append, ← hkn, Nat.zero_add] at hrb
                        have hK := H.drew.kill hb (by simp) hρ
                        exact ⟨_, hK.new_ext (sz w.drew, g'), hK.alloc _ _ g' hrb, .sg _ _ _ _ _ g' 0 (ρput_eq _ _ _) (.inl rfl) (by show 0 + (k + new.length) ≤ g'; omega)⟩
                    · split at e
                      · subst hk1
                        rename_i hle0
                        have hle0 := Nat.le_of_ble_eq_true hle0
                        rw [lenL_eq] at hle0
                        have hle0 : k1 + k + new.length ≤ es.length := hle0
                        obtain ⟨rfl, rfl⟩ := some_pair e
                        have : o' = q := ho.resolve_right (by omega)
                        subst this
                        subst hq
                        have hm1 : (k1 + k + new.length) * z ≤ es.length * z := Nat.mul_le_mul_right _ hle0
                        rw [Nat.add_mul, Nat.add_mul] at hm1
                        have hle : k1 * z + k * z + ys.length ≤ cs.length := by omega
                        have hle' : k1 * z + k * z + ys.length ≤ (cs ++ post).length := by rw [List.length_append]; omega
                        have hfr : fr.2 ≤ k1 * z + k * z ∨ k1 * z + k * z + ys.length ≤ fr.1 := by rcases g5 with g5 | g5 <;> omega
                        refine Nx_val (app_room h0 A ty hlen hfw (by omega) g1 hle' hfr hys) ?_
                        have hput : putB es z z (k1 * z + k * z) new = some (splL es (Nat.add k1 k) new) := by
                          have hmod : Nat.mod (k1 * z + k * z) z = 0 := by rw [← Nat.add_mul]; exact Nat.mul_mod_left _ _
                          have hdiv : Nat.div (k1 * z + k * z) z = k1 + k := by rw [← Nat.add_mul]; exact Nat.mul_div_cancel _ A.pos
                          unfold putB
                          rw [show Nat.beq z z = true from Nat.beq_refl z, hmod, hdiv, lenL_eq, lenL_eq, show Nat.ble (Nat.add (k1 + k) new.length) es.length = true from Nat.ble_eq_true_of_le hle0]
                          rfl
                        obtain ⟨q1, q2, q3, q4⟩ := putB_sound g2 g3 g4'.1 hy hyz hys hput
                        refine ⟨ρ, .refl _, H.turn hb (by simp) hρ (fun r' hr' => by rw [bk_wr, if_neg hr']) (sz_wr ..) rfl ?_, .sg _ _ _ _ r g _ hρ (.inl rfl) (by show k1 + (k + new.length) ≤ g; omega)⟩
                        rw [bk_wr_self g1, spl_app q1]
                        exact .grow _ _ _ _ _ q2 q3 (by rw [List.all_append, Bool.and_eq_true]; exact ⟨spl_all g4'.1 hys, g4'.2⟩) (by rw [List.length_append, spl_len q1, ← List.length_append]; exact g7) (by rw [q4]; exact g8) fr (by rw [List.length_append, spl_len q1, ← List.length_append]; exact g5)
                      · cases e
            · cases e
          · cases e
end
end Go.Proofs.YthdaccndnfgeeaaGreatDoor.CM
