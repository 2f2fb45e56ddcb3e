/- Rows of elements: read, put, grown. No program in sight. -/
import Derived.Test.YthdaccndnfgeeaaGreatDoorEvK
import Derived.Laws.AppendOwn
namespace Go.Proofs.YthdaccndnfgeeaaGreatDoor.CM
open Go
section
variable {P : Program} {ρ : Vl} {B : Nat} {w0 w : World} {h h' : Hp} {n : Nat} {rg : Rg} {a : Act} {call : Cl} {o : Oper} {v : V}
theorem beq_ne {a b : Nat} (h : Nat.beq a b = false) : a ≠ b := fun e => by subst e; rw [Nat.beq_refl] at h; cases h
theorem cutN_some {o n : Nat} {es es2 : List V} (e : cutN o n es = some es2) : o + n ≤ es.length ∧ es2 = (es.drop o).take n := by
  unfold cutN at e
  split at e
  · rename_i hle
    have := Nat.le_of_ble_eq_true hle
    rw [lenL_eq] at this
    cases e
    rw [takeN_eq, dropN_eq]
    exact ⟨this, rfl⟩
  · cases e
theorem mod_div (o z : Nat) (h : Nat.mod o z = 0) : o = o / z * z := by
  have := Nat.div_add_mod o z
  rw [show o % z = 0 from h, Nat.add_zero] at this
  rw [Nat.mul_comm]; exact this.symm
theorem elsB_sound {es es2 : List V} {z' z o n : Nat} {c : List Value} (hc : RVs ρ (cats es) c) (hz : ∀ e ∈ es, (celV e).length = z') (hs : c.all scalarV = true) (e : elsB es z' z o n = some es2) :
    o + n * z ≤ c.length ∧ RVs ρ (cats es2) ((c.drop o).take (n * z)) ∧ (∀ e ∈ es2, (celV e).length = z) ∧ es2.length = n := by
  have hcl := hc.len
  rw [cats_len hz] at hcl
  unfold elsB at e
  split at e
  · rename_i hzz
    have := Nat.eq_of_beq_eq_true hzz
    subst this
    split at e
    · rename_i hm
      obtain ⟨h1, rfl⟩ := cutN_some e
      have ho := mod_div _ _ hm
      change o / z + n ≤ es.length at h1
      have hle : o + n * z ≤ c.length := by
        rw [← hcl]; conv => lhs; rw [ho]
        rw [← Nat.add_mul]; exact Nat.mul_le_mul_right _ h1
      refine ⟨hle, ?_, fun e he => hz e (List.mem_of_mem_drop (List.mem_of_mem_take he)), by simp only [List.length_take, List.length_drop]; show min n (es.length - o / z) = n; omega⟩
      rw [← cats_take n (fun e he => hz e (List.mem_of_mem_drop he))]
      have : cats (es.drop (Nat.div o z)) = (cats es).drop o := by
        rw [← cats_drop (Nat.div o z) hz]; congr 1; exact ho.symm
      rw [this]
      exact (hc.drop _).take _
    · cases e
  · split at e
    · rename_i hz1
      have := Nat.eq_of_beq_eq_true hz1
      subst this
      split at e
      · rename_i l hn
        rw [nth?_eq] at hn
        obtain ⟨h1, rfl⟩ := cutN_some e
        have hd := cats_at hz hn
        have hlz := hz _ (List.mem_of_getElem? hn)
        simp only [celV] at hd hlz
        have hdc := hc.drop (Nat.div o z' * z')
        rw [hd] at hdc
        obtain ⟨ca, cb, hab, ha, hb⟩ := hdc.split
        have hal : ca.length = z' := by rw [← ha.len, hlz]
        change o % z' + n ≤ l.length at h1
        have hod := Nat.div_add_mod o z'
        rw [Nat.mul_comm] at hod
        have hsum : c.length - o / z' * z' = ca.length + cb.length := by
          have : (c.drop (o / z' * z')).length = ca.length + cb.length := by
            rw [show c.drop (o / z' * z') = ca ++ cb from hab, List.length_append]
          rwa [List.length_drop] at this
        have hsa : ca.all scalarV = true := by
          have := all_drop hs (Nat.div o z' * z')
          rw [hab, List.all_append, Bool.and_eq_true] at this; exact this.1
        have hge : o / z' * z' ≤ c.length := by
          have hlt : o / z' < es.length := (List.getElem?_eq_some_iff.1 hn).1
          rw [← hcl]; exact Nat.mul_le_mul_right _ (by omega)
        have key : (c.drop o).take n = (ca.drop (o % z')).take n := by
          have : c.drop o = (c.drop (o / z' * z')).drop (o % z') := by rw [List.drop_drop, hod]
          rw [this, show c.drop (o / z' * z') = ca ++ cb from hab, List.drop_append_of_le_length (by omega), List.take_append_of_le_length (by rw [List.length_drop]; omega)]
        rw [Nat.mul_one, key]
        have hr : RVs ρ ((l.drop (o % z')).take n) ((ca.drop (o % z')).take n) := (ha.drop _).take _
        have hsr := all_take (all_drop hsa (o % z')) n
        obtain ⟨f1, f2⟩ := flat1 hr hsr
        refine ⟨by omega, ?_, f2, ?_⟩
        · show RVs ρ (cats ((l.drop (o % z')).take n)) _
          rw [f1]; exact hr
        · simp only [List.length_take, List.length_drop]; show min n (l.length - o % z') = n; omega
      · cases e
    · cases e
theorem putB_sound {es es' new : List V} {z' z o : Nat} {c ys : List Value} (hc : RVs ρ (cats es) c) (hz : ∀ e ∈ es, (celV e).length = z') (hs : c.all scalarV = true)
    (hy : RVs ρ (cats new) ys) (hyz : ∀ e ∈ new, (celV e).length = z) (hys : ys.all scalarV = true) (e : putB es z' z o new = some es') :
    o + ys.length ≤ c.length ∧ RVs ρ (cats es') (spl c o ys) ∧ (∀ e ∈ es', (celV e).length = z') ∧ es'.length = es.length := by
  have hcl := hc.len
  rw [cats_len hz] at hcl
  have hyl := hy.len
  rw [cats_len hyz] at hyl
  unfold putB at e
  split at e
  · rename_i hzz
    have := Nat.eq_of_beq_eq_true hzz
    subst this
    split at e
    · rename_i hm
      split at e
      · rename_i hle
        have hle := Nat.le_of_ble_eq_true hle
        rw [lenL_eq, lenL_eq] at hle
        change o / z + new.length ≤ es.length at hle
        cases e
        have ho := mod_div _ _ hm
        rw [splL_eq]
        have hle2 : o + ys.length ≤ c.length := by
          rw [← hcl, ← hyl]; conv => lhs; rw [ho]
          rw [← Nat.add_mul]; exact Nat.mul_le_mul_right _ hle
        refine ⟨hle2, ?_, ?_, ?_⟩
        · rw [cats_app, cats_app, ← cats_take _ hz, ← cats_drop _ hz]
          unfold spl
          have e1 : Nat.div o z * z = o := ho.symm
          rw [Nat.add_mul, e1, hyl]
          exact ((hc.take _).app hy).app (hc.drop _)
        · intro e he
          simp only [List.mem_append] at he
          rcases he with (he | he) | he
          · exact hz e (List.mem_of_mem_take he)
          · exact hyz e he
          · exact hz e (List.mem_of_mem_drop he)
        · simp only [List.length_append, List.length_take, List.length_drop]
          show min (o / z) es.length + new.length + (es.length - (o / z + new.length)) = es.length
          omega
      · cases e
    · cases e
  · split at e
    · rename_i hz1
      have := Nat.eq_of_beq_eq_true hz1
      subst this
      split at e
      · rename_i l hn
        rw [nth?_eq] at hn
        split at e
        · rename_i hle
          have hle := Nat.le_of_ble_eq_true hle
          rw [lenL_eq, lenL_eq] at hle
          change o % z' + new.length ≤ l.length at hle
          cases e
          rw [setL_eq, splL_eq]
          have hd := cats_at hz hn
          have hlz := hz _ (List.mem_of_getElem? hn)
          simp only [celV] at hd hlz
          have hod := Nat.div_add_mod o z'
          rw [Nat.mul_comm] at hod
          have hlt : o / z' < es.length := (List.getElem?_eq_some_iff.1 hn).1
          have hge : (o / z' + 1) * z' ≤ es.length * z' := Nat.mul_le_mul_right _ (by omega)
          rw [Nat.add_mul, Nat.one_mul] at hge
          have hcn : (cats new).length = new.length := by rw [cats_len hyz, Nat.mul_one]
          rw [Nat.mul_one] at hyl
          refine ⟨by omega, ?_, ?_, by simp⟩
          · have e0 : es.set (Nat.div o z') (V.agg (l.take (Nat.mod o z') ++ cats new ++ l.drop (Nat.mod o z' + (cats new).length))) = es.take (o / z') ++ (V.agg (l.take (o % z') ++ cats new ++ l.drop (o % z' + (cats new).length)) :: es.drop (o / z' + 1)) :=
              List.set_eq_take_append_cons_drop .. |>.trans (by rw [if_pos (show Nat.div o z' < es.length from hlt)]; rfl)
            rw [e0, cats_app, cats_cons]
            simp only [celV]
            have ec : cats es = (cats es).take (o / z' * z') ++ (l ++ cats (es.drop (o / z' + 1))) := by
              have := List.take_append_drop (o / z' * z') (cats es)
              rw [show (cats es).drop (o / z' * z') = _ from hd] at this
              exact this.symm
            have e1 : cats (es.take (o / z')) = (cats es).take (o / z' * z') := (cats_take _ hz).symm
            rw [e1]
            have e2 : (cats es).take (o / z' * z') ++ (l.take (o % z') ++ cats new ++ l.drop (o % z' + (cats new).length) ++ cats (es.drop (o / z' + 1))) = (cats es).take o ++ cats new ++ (cats es).drop (o + (cats new).length) := by
              have hL : ((cats es).take (o / z' * z')).length = o / z' * z' := by rw [List.length_take, cats_len hz]; omega
              have t1 : (cats es).take o = (cats es).take (o / z' * z') ++ l.take (o % z') := by
                conv => lhs; rw [ec]
                rw [List.take_append, hL, List.take_of_length_le (by omega), show o - o / z' * z' = o % z' by omega, List.take_append_of_le_length (by omega)]
              have t2 : (cats es).drop (o + (cats new).length) = l.drop (o % z' + (cats new).length) ++ cats (es.drop (o / z' + 1)) := by
                conv => lhs; rw [ec]
                rw [List.drop_append, hL, List.drop_of_length_le (by omega), show o + (cats new).length - o / z' * z' = o % z' + (cats new).length by omega, List.drop_append_of_le_length (by omega)]
                rfl
              rw [t1, t2]; simp only [List.append_assoc]
            rw [e2]
            exact hc.spl hy o
          · intro e he
            rcases List.mem_or_eq_of_mem_set he with he | rfl
            · exact hz e he
            · simp only [celV, List.length_append, List.length_take, List.length_drop]
              show min (o % z') l.length + (cats new).length + (l.length - (o % z' + (cats new).length)) = z'
              omega
        · cases e
      · cases e
    · cases e
/-- A named row of cells. -/
theorem blk_row (H : RH B w0 ρ h w) {b : Bp} {r g : Nat} (hρ : ρ b = some (r, g)) {es : List V} {z : Nat} (hb : h.blk b = some (.cells es z) ∨ h.blk b = some (.grow es z)) :
    ∃ c post E fr, bk w r = some (clf (c ++ post) E fr) ∧ RVs ρ (cats es) c ∧ (∀ e ∈ es, (celV e).length = z) ∧ (c ++ post).all scalarV = true ∧ frOk fr (c ++ post).length ∧ (h.blk b = some (.grow es z) → (c ++ post).length = g * z ∧ es.length ≤ g) ∧ (h.blk b = some (.cells es z) → post = []) := by
  rcases hb with hb | hb
  · obtain ⟨r', g', e, hk⟩ := H.blk _ _ hb
    rw [hρ] at e; cases e
    generalize hw : bk w r = ob at hk
    cases hk with
    | cells _ _ c E hc hz hs fr hf => exact ⟨c, [], E, fr, by rw [List.append_nil], hc, hz, by rw [List.append_nil]; exact hs, by rw [List.append_nil]; exact hf, fun h => (by rw [hb] at h; cases h), fun _ => rfl⟩
  · obtain ⟨r', g', e, hk⟩ := H.blk _ _ hb
    rw [hρ] at e; cases e
    generalize hw : bk w r = ob at hk
    cases hk with
    | grow _ _ c post E hc hz hs hl hg fr hf => exact ⟨c, post, E, fr, rfl, hc, hz, hs, hf, fun _ => ⟨hl, hg⟩, fun h => (by rw [hb] at h; cases h)⟩
theorem elsH_sound (H : RH B w0 ρ h w) {b : Bp} {r g z o n : Nat} {es2 : List V} (hρ : ρ b = some (r, g)) (e : elsH h b z o n = some es2) :
    ∃ c E fr, bk w r = some (clf c E fr) ∧ o + n * z ≤ c.length ∧ RVs ρ (cats es2) ((c.drop o).take (n * z)) ∧ (∀ e ∈ es2, (celV e).length = z) ∧ es2.length = n ∧ c.all scalarV = true := by
  have go : ∀ es z', (h.blk b = some (.cells es z') ∨ h.blk b = some (.grow es z')) → elsB es z' z o n = some es2 → ∃ c E fr, bk w r = some (clf c E fr) ∧ o + n * z ≤ c.length ∧ RVs ρ (cats es2) ((c.drop o).take (n * z)) ∧ (∀ e ∈ es2, (celV e).length = z) ∧ es2.length = n ∧ c.all scalarV = true := fun es z' hb e => by
    obtain ⟨c, post, E, fr, h1, h2, h3, h4, _⟩ := blk_row H hρ hb
    have h4' : c.all scalarV = true := by rw [List.all_append, Bool.and_eq_true] at h4; exact h4.1
    obtain ⟨g1, g2, g3, g4⟩ := elsB_sound h2 h3 h4' e
    refine ⟨c ++ post, E, fr, h1, by simp; omega, ?_, g3, g4, h4⟩
    rw [List.drop_append_of_le_length (by omega), List.take_append_of_le_length (by rw [List.length_drop]; omega)]
    exact g2
  unfold elsH at e
  split at e
  · rename_i es z' hb; exact go es z' (.inl hb) e
  · rename_i es z' hb; exact go es z' (.inr hb) e
  · cases e
theorem rdev_first {r o' m z N C : Nat} {c : List Value} {E : TypeId} {fr : Nat × Nat} (hb : bk w r = some (clf c E fr)) (hle : o' + m * z ≤ c.length) :
    rdev P (Builtin.firstCells z m (.slice (some ⟨r, o', none⟩) N C)) w = some ((c.drop o').take (m * z)).toArray := by
  simp only [Builtin.firstCells, loadCells]
  rw [rdev_loadCells r o' w c.toArray E fr hb]
  rw [if_pos (by right; simp; omega)]
  simp
theorem rdev_first0 {r o' z N C : Nat} : rdev P (Builtin.firstCells z 0 (.slice (some ⟨r, o', none⟩) N C)) w = some #[] := by
  simp [Builtin.firstCells, loadCells, loadCellsFrom, rdev_pure]
theorem mapL_eq {α β : Type} (f : α → β) (l : List α) : mapL f l = l.map f := by
  induction l with
  | nil => rfl
  | cons a l ih => show f a :: mapL f l = _; rw [ih]; rfl
theorem u8_rvs : ∀ (s : List Nat), RVs ρ (s.map u8V) (s.map fun b => Value.int .u8 (.ofNat b))
  | [] => .nil
  | b :: s => .cons _ _ _ _ (.int _ _) (u8_rvs s)
theorem u8_flat (s : List Nat) : cats (s.map u8V) = s.map u8V := by
  induction s with
  | nil => rfl
  | cons b s ih => rw [List.map_cons, cats_cons, ih]; rfl
theorem u8_all (s : List Nat) : (s.map fun b => Value.int .u8 (.ofNat b)).all scalarV = true := by simp [scalarV]
theorem u8_bytes {s : List Nat} (hs : ∀ x ∈ s, x < 256) : ((bytesOf s).data.map fun b => Value.int .u8 b.toNat) = (s.map fun b => Value.int .u8 (.ofNat b)).toArray := by
  unfold bytesOf
  apply Array.ext'
  simp only [List.map_toArray, List.map_map]
  apply List.map_congr_left
  intro b hb
  simp only [Function.comp_def, UInt8.toNat_ofNat', Value.int.injEq, true_and]
  rw [Nat.mod_eq_of_lt (by have := hs b hb; omega)]; rfl
theorem elems_sound (H : RH B w0 ρ h w) {x : V} {X : Value} {z : Nat} {es : List V} (hx : RV ρ x X) (e : elems h x z = some es) :
    ∃ ys, RVs ρ (cats es) ys ∧ (∀ e ∈ es, (celV e).length = z) ∧ ys.all scalarV = true ∧ pev P (Builtin.lenOf X) = some es.length ∧ ∀ m, m ≤ es.length → rdev P (Builtin.firstCells z m X) w = some (ys.take (m * z)).toArray := by
  unfold elems at e
  split at e
  · cases e
    cases hx
    exact ⟨[], .nil, by simp, rfl, rfl, fun m hm => by simp [Builtin.firstCells, rdev_pure]⟩
  · rename_i s
    split at e
    · rename_i hz
      have := Nat.eq_of_beq_eq_true hz
      subst this
      cases e
      cases hx with
      | str _ hs =>
        rw [mapL_eq]
        refine ⟨_, by rw [u8_flat]; exact u8_rvs s, ?_, u8_all s, ?_, ?_⟩
        · intro e he; obtain ⟨b, _, rfl⟩ := List.mem_map.1 he; rfl
        · simp [Builtin.lenOf, pev_pure, bytesOf_size]
        · intro m hm
          simp only [Builtin.firstCells, rdev_pure, Nat.mul_one]
          rw [bytesOf_extract, u8_bytes (fun y hy => hs y (List.mem_of_mem_drop (List.mem_of_mem_take hy)))]
          simp [List.map_take]
    · cases e
  · rename_i b o' k c
    cases hx with
    | sl _ _ _ _ r g hρ =>
      obtain ⟨c, E, fr, h1, h2, h3, h4, h5, h6⟩ := elsH_sound H hρ e
      refine ⟨_, h3, h4, all_take (all_drop h6 _) _, by rw [h5]; rfl, fun m hm => ?_⟩
      have hm' : m * z ≤ k * z := Nat.mul_le_mul_right _ (by omega)
      rw [rdev_first h1 (by omega), List.take_take, Nat.min_eq_left hm']
  · rename_i b o' k c
    cases hx with
    | sg _ _ _ _ r g o2 hρ ho hkg =>
      obtain ⟨c, E, fr, h1, h2, h3, h4, h5, h6⟩ := elsH_sound H hρ e
      refine ⟨_, h3, h4, all_take (all_drop h6 _) _, by rw [h5]; rfl, fun m hm => ?_⟩
      cases m with
      | zero => rw [rdev_first0]; simp
      | succ m =>
        have : o2 = o' := ho.resolve_right (by omega)
        subst this
        have hm' : (m + 1) * z ≤ k * z := Nat.mul_le_mul_right _ (by omega)
        rw [rdev_first h1 (by omega), List.take_take, Nat.min_eq_left hm']
  · rename_i r o' c es0 z'
    split at e
    · rename_i hzz
      have := Nat.eq_of_beq_eq_true hzz
      subst this
      cases e
      cases hx with
      | ro _ _ _ _ _ xs hes hz hs hc hW =>
        refine ⟨xs, hes, hz, hs, rfl, fun m hm => ?_⟩
        have hxl := hes.len
        rw [cats_len hz] at hxl
        have hm' : m * z ≤ es.length * z := Nat.mul_le_mul_right _ hm
        rcases hW with rfl | ⟨c0, T, fr, h3, h4⟩
        · have : m * z = 0 := by rw [List.length_nil] at hxl; omega
          simp only [Builtin.firstCells, loadCells, this]
          simp [loadCellsFrom, rdev_pure]
        · obtain ⟨h5, h6⟩ := H.ro _ _ h3
          have hb : bk w r = some (clf c0.toList T fr) := by rw [H.old _ h5, h6]; unfold clf; rw [Array.toArray_toList]
          have hle : xs.length ≤ (c0.toList.drop o').length := by
            have : ((c0.toList.drop o').take xs.length).length = xs.length := by rw [h4]
            rw [List.length_take] at this; omega
          by_cases h0 : m * z = 0
          · simp only [Builtin.firstCells, loadCells, h0]; simp [loadCellsFrom, rdev_pure]
          · rw [rdev_first hb (by rw [List.length_drop] at hle; omega)]
            conv => rhs; rw [← h4]
            rw [List.take_take, Nat.min_eq_left (by omega)]
    · cases e
  · cases e
end
end Go.Proofs.YthdaccndnfgeeaaGreatDoor.CM
