/- Put, appended, copied, made, turned into text and back. No program in sight. -/
import Derived.Test.YthdaccndnfgeeaaGreatDoorEvL
namespace Go.Proofs.YthdaccndnfgeeaaGreatDoor.CM
open Go
section
variable {P : Program} {ρ : Vl} {B : Nat} {w0 w : World} {h h' : Hp} {n : Nat} {rg : Rg} {a : Act} {call : Cl} {o : Oper} {v : V}
theorem putEls_sound (H : RH B w0 ρ h w) {b : Bp} {r g z o : Nat} {new : List V} {ys : List Value} (hρ : ρ b = some (r, g)) (hy : RVs ρ (cats new) ys) (hyz : ∀ e ∈ new, (celV e).length = z) (hys : ys.all scalarV = true)
    (e : putEls h b o z new = some h') : ∃ c E fr, bk w r = some (clf c E fr) ∧ o + ys.length ≤ c.length ∧ (fr.2 ≤ o ∨ o + ys.length ≤ fr.1) ∧ RH B w0 ρ h' (wr w r (spl c o ys)) := by
  have fo : ∀ {fr : Nat × Nat} {m : Nat}, frOk fr m → o + ys.length ≤ m → (fr.2 ≤ o ∨ o + ys.length ≤ fr.1) := fun hf hle => by rcases hf with hf | hf <;> omega
  unfold putEls at e
  split at e
  · rename_i es z' hb
    split at e
    · rename_i es' hp
      cases e
      obtain ⟨c, post, E, fr, h1, h2, h3, h4, h5, _, h6⟩ := blk_row H hρ (.inl hb)
      have hp0 := h6 hb
      subst hp0
      rw [List.append_nil] at h1 h4 h5
      obtain ⟨g1, g2, g3, g4⟩ := putB_sound h2 h3 h4 hy hyz hys hp
      refine ⟨c, E, fr, h1, g1, fo h5 g1, ?_⟩
      exact H.turn hb (by simp) hρ (fun r' hr' => by rw [bk_wr, if_neg hr']) (sz_wr ..) rfl (by rw [bk_wr_self h1]; exact .cells _ _ _ _ g2 g3 (spl_all h4 hys) fr (by rw [spl_len g1]; exact h5))
    · cases e
  · rename_i es z' hb
    split at e
    · rename_i es' hp
      cases e
      obtain ⟨c, post, E, fr, h1, h2, h3, h4, h5, h6, _⟩ := blk_row H hρ (.inr hb)
      obtain ⟨h7, h8⟩ := h6 hb
      have h4' : c.all scalarV = true ∧ post.all scalarV = true := by rw [List.all_append, Bool.and_eq_true] at h4; exact h4
      obtain ⟨g1, g2, g3, g4⟩ := putB_sound h2 h3 h4'.1 hy hyz hys hp
      refine ⟨c ++ post, E, fr, h1, by simp; omega, fo h5 (by simp; omega), ?_⟩
      refine H.turn hb (by simp) hρ (fun r' hr' => by rw [bk_wr, if_neg hr']) (sz_wr ..) rfl ?_
      rw [bk_wr_self h1, spl_app g1]
      exact .grow _ _ _ _ _ g2 g3 (by rw [List.all_append, Bool.and_eq_true]; exact ⟨spl_all h4'.1 hys, h4'.2⟩) (by rw [List.length_append, spl_len g1, ← List.length_append]; exact h7) (by rw [g4]; exact h8) fr (by rw [List.length_append, spl_len g1, ← List.length_append]; exact h5)
    · cases e
  · cases e
theorem run_put {w : World} {r o : Nat} {c ys : List Value} {E : TypeId} {fr : Nat × Nat} (h1 : bk w r = some (clf c E fr)) (h2 : o + ys.length ≤ c.length) (h3 : fr.2 ≤ o ∨ o + ys.length ≤ fr.1) (h4 : ys.all scalarV = true) :
    (storeCells ⟨r, o, none⟩ ys).run P w = .ok () (wr w r (spl c o ys)) := by
  have := run_storeCells (P := P) r o E fr ys 0 c.toArray w h1 (by simpa using h2) (by simpa using h3) h4
  simpa using this

theorem run_sizeOf {e : TypeId} {i : TypeInfo} (hi : P.info? e = some i) (w : World) : (sizeOf e).run P w = .ok i.size w := by simp [sizeOf, typeInfo, hi]
/-! ### Append -/
structure ApT (P : Program) (T : TypeId) (X : Option TypeId) (z bytes : Nat) (e : TypeId) (i : TypeInfo) (zv : Value) : Prop where
  sl : P.underlying T = some (.slice e)
  info : P.info? e = some i
  zero : i.zero = some zv
  zsz : zv.cells.size = z
  zsc : zv.cells.toList.all scalarV = true
  pos : 0 < z
  size : i.size = z
  bytes : i.bytes = bytes
  x : ∀ t, X = some t → ∃ d, P.underlying t = some d ∧ (match d with | .int _ => true | _ => false) = false
theorem appE_some {T : TypeId} {X : Option TypeId} {z bytes : Nat} (e : appE P T X = some (z, bytes)) : ∃ E i zv, ApT P T X z bytes E i zv := by
  unfold appE at e
  split at e
  · cases e
  · rename_i hx
    split at e
    · rename_i E hu
      split at e
      · rename_i i hi
        split at e
        · rename_i zv hz
          split at e
          · rename_i hc
            simp only [Bool.and_eq_true] at hc
            cases e
            refine ⟨E, i, zv, hu, hi, hz, Nat.eq_of_beq_eq_true hc.1.1, hc.1.2, Nat.le_of_ble_eq_true hc.2, rfl, rfl, fun t ht => ?_⟩
            subst ht
            simp only at hx
            split at hx
            · cases hx
            · rename_i d hn hd; exact ⟨d, hd, by split <;> first | rfl | (rename_i k; exact (hn k rfl).elim)⟩
            · cases hx
          · cases e
        · cases e
      · cases e
    · cases e
theorem roomB_le {n b : Nat} (h : roomB n b = true) : n * b ≤ 70368744177664 ∧ n ≤ 70368744177664 := by
  unfold roomB at h
  simp only [Bool.and_eq_true] at h
  exact ⟨Nat.le_of_ble_eq_true h.1, Nat.le_of_ble_eq_true h.2⟩
variable {T : TypeId} {ts : Array TypeId} {z bytes : Nat} {E : TypeId} {i : TypeInfo} {zv : Value}
/-- In the room that is there. -/
theorem app_room (h0 : ts[0]? = some T) (A : ApT P T ts[1]? z bytes E i zv) (ty : TypeId) {X : Value} {m sLen sCap : Nat} {ys : List Value} {r o : Nat} {c : List Value} {E' : TypeId} {fr : Nat × Nat}
    (hm : pev P (Builtin.lenOf X) = some m) (hn : rdev P (Builtin.firstCells z m X) w = some ys.toArray) (hfit : sLen + m ≤ sCap)
    (hb : bk w r = some (clf c E' fr)) (hle : o + sLen * z + ys.length ≤ c.length) (hf : fr.2 ≤ o + sLen * z ∨ o + sLen * z + ys.length ≤ fr.1) (hys : ys.all scalarV = true) :
    (Builtin.append_ ts ty #[.slice (some ⟨r, o, none⟩) sLen sCap, X]).run P w = .ok (.slice (some ⟨r, o, none⟩) (sLen + m) sCap) (wr w r (spl c (o + sLen * z) ys)) := by
  have hm' := pev_run hm w
  have hn' := rdev_run hn
  have hst := run_put (P := P) hb hle hf hys
  have hsz := A.size
  subst hsz
  unfold Builtin.append_
  cases hX : ts[1]? with
  | none =>
    simp only [h0, hX, List.getElem?_toArray, List.getElem?_cons_zero, List.getElem?_cons_succ, Sem.run_bind, run_underlying A.sl, Result.andThen_ok, sizeOf, typeInfo, program, Sem.run, A.info, Sem.run_pure,
      Bool.false_eq_true, if_false, hm', hfit, if_true, Bool.not_false, hn', add_ptr, hst]
  | some t =>
    obtain ⟨d, hd, hdm⟩ := A.x t hX
    simp only [h0, hX, List.getElem?_toArray, List.getElem?_cons_zero, List.getElem?_cons_succ, Sem.run_bind, run_underlying A.sl, run_underlying hd, Result.andThen_ok, sizeOf, typeInfo, program, Sem.run, A.info, Sem.run_pure]
    split
    · cases hdm
    · simp only [Bool.false_eq_true, if_false, Sem.run_bind, Sem.run_pure, Result.andThen_ok, hm', hfit, if_true, Bool.not_false, hn', add_ptr, hst]
theorem app_none (h0 : ts[0]? = some T) (A : ApT P T ts[1]? z bytes E i zv) (ty : TypeId) {X : Value} (hm : pev P (Builtin.lenOf X) = some 0) (hn : rdev P (Builtin.firstCells z 0 X) w = some #[]) :
    (Builtin.append_ ts ty #[.slice none 0 0, X]).run P w = .ok (.slice none 0 0) w := by
  have hm' := pev_run hm w
  have hn' := rdev_run hn
  have hsz := A.size
  subst hsz
  unfold Builtin.append_
  cases hX : ts[1]? with
  | none =>
    simp only [h0, hX, List.getElem?_toArray, List.getElem?_cons_zero, List.getElem?_cons_succ, Sem.run_bind, run_underlying A.sl, Result.andThen_ok, sizeOf, typeInfo, program, Sem.run, A.info, Sem.run_pure,
      Bool.false_eq_true, if_false, hm', Nat.add_zero, Nat.le_refl, if_true, Bool.not_false, hn']
  | some t =>
    obtain ⟨d, hd, hdm⟩ := A.x t hX
    simp only [h0, hX, List.getElem?_toArray, List.getElem?_cons_zero, List.getElem?_cons_succ, Sem.run_bind, run_underlying A.sl, run_underlying hd, Result.andThen_ok, sizeOf, typeInfo, program, Sem.run, A.info, Sem.run_pure]
    split
    · cases hdm
    · simp only [Bool.false_eq_true, if_false, Sem.run_bind, Sem.run_pure, Result.andThen_ok, hm', Nat.add_zero, Nat.le_refl, if_true, Bool.not_false, hn']
/-- In new room. -/
theorem app_grow (h0 : ts[0]? = some T) (A : ApT P T ts[1]? z bytes E i zv) (ty : TypeId) {S X : Value} {base : Option Addr} {m sLen sCap : Nat} {xs ys : List Value} (hS : S = .slice base sLen sCap)
    (hm : pev P (Builtin.lenOf X) = some m) (hn : rdev P (Builtin.firstCells z m X) w.drew = some ys.toArray) (ho : rdev P (Builtin.firstCells z sLen S) w.drew = some xs.toArray) (hfit : ¬ sLen + m ≤ sCap)
    (hroom : roomB (sLen + m) bytes = true) :
    (Builtin.append_ ts ty #[S, X]).run P w = .ok (.slice (some ⟨sz w, 0, none⟩) (sLen + m) (grownCap w (sLen + m) sCap E))
      (w.drew.alloc (cl (xs ++ ys ++ (Builtin.zeroCells zv.cells (grownCap w (sLen + m) sCap E - (sLen + m))).toList) E)) := by
  subst hS
  have hm' := pev_run hm w
  have hn' := rdev_run hn
  have ho' := rdev_run ho
  have hsz := A.size
  subst hsz
  have hby := A.bytes
  subst hby
  obtain ⟨hr1, hr2⟩ := roomB_le hroom
  have h63 : ¬ (9223372036854775807 < ((sLen : Int) + (m : Int))) := by omega
  have h48 : ¬ (281474976710656 < Builtin.nextslicecap (sLen + m) sCap * i.bytes) := by
    have := growslice_fits (old := sCap) (need := sLen + m) (bytes := i.bytes) (by omega) (by omega)
    omega
  have fin : ∀ k : Array Value, (Obj.cells (xs.toArray ++ (ys.toArray ++ k)) E) = cl (xs ++ (ys ++ k.toList)) E := fun k => by
    unfold cl; congr 1; apply Array.ext'; simp
  unfold Builtin.append_
  cases hX : ts[1]? with
  | none =>
    simp [h0, hX, run_underlying A.sl, sizeOf, typeInfo, A.info, A.zero, hm', hfit, h63, h48, Question.forced, hn', ho', newRow, grownCap, zeroValue, fin, sz]
  | some t =>
    obtain ⟨d, hd, hdm⟩ := A.x t hX
    simp only [h0, hX, List.getElem?_toArray, List.getElem?_cons_zero, List.getElem?_cons_succ, Sem.run_bind, run_underlying A.sl, run_underlying hd, Result.andThen_ok, run_sizeOf A.info, Sem.run_pure]
    split
    · cases hdm
    · simp [sizeOf, typeInfo, A.info, A.zero, hm', hfit, h63, h48, Question.forced, hn', ho', newRow, grownCap, zeroValue, fin, sz]
end
end Go.Proofs.YthdaccndnfgeeaaGreatDoor.CM
