/- Equality. No program in sight. -/
import Derived.Test.YthdaccndnfgeeaaGreatDoorEvW
import Derived.Laws.StructEq
namespace Go.Proofs.YthdaccndnfgeeaaGreatDoor.CM
open Go
section
variable {P : Program} {ρ : Vl}
def eqF (P : Program) (d : Nat) (xs ys : Array Value) : List Field → Option Bool
  | [] => some true
  | f :: fs => if f.name ≠ "_" then (pev P (part f.type xs f.offset)).bind fun a => (pev P (part f.type ys f.offset)).bind fun b => (pev P (Op.equalIn d f.type a b)).bind fun r => if (!r) = true then some false else eqF P d xs ys fs
    else eqF P d xs ys fs
theorem pev_ite {α : Type} (c : Prop) [Decidable c] (a b : Sem α) : pev P (if c then a else b) = if c then pev P a else pev P b := by split <;> rfl
theorem pev_struct (d : Nat) (t : TypeId) (xs ys : Array Value) {fs : Array Field} (ht : P.underlying t = some (.struct fs)) (hp : P.stoodInHeld t = false) :
    pev P (Op.equalIn (d + 1) t (.agg xs) (.agg ys)) = eqF P d xs ys fs.toList := by
  simp only [Op.equalIn, pev_bind, pev_underlying, ht, Option.bind_some, program, pev, hp, Bool.false_eq_true, if_false]
  rw [← Array.forIn_toList]
  generalize fs.toList = fs
  induction fs with
  | nil => simp [eqF, pev_pure]
  | cons f fs ih =>
    simp only [List.forIn_cons, eqF, pev_bind, pev_ite]
    split
    · cases pev P (part f.type xs f.offset) with
      | none => rfl
      | some a =>
        simp only [Option.bind_some]
        cases pev P (part f.type ys f.offset) with
        | none => rfl
        | some b =>
          simp only [Option.bind_some]
          cases pev P (Op.equalIn d f.type a b) with
          | none => rfl
          | some r =>
            cases r
            · simp only [Option.bind_some, Bool.not_false, if_true, pev_pure]
            · simp only [Option.bind_some, Bool.not_true, Bool.false_eq_true, if_false, pev_pure]
              exact ih
    · simp only [pev_pure, Option.bind_some]
      exact ih
def eqA (P : Program) (d : Nat) (e : TypeId) (z : Nat) (xs ys : Array Value) : List Nat → Option Bool
  | [] => some true
  | i :: l => (pev P (part e xs (i * z))).bind fun a => (pev P (part e ys (i * z))).bind fun b => (pev P (Op.equalIn d e a b)).bind fun r => if (!r) = true then some false else eqA P d e z xs ys l
theorem pev_array (d : Nat) (t : TypeId) (xs ys : Array Value) {e : TypeId} {m z : Nat} (ht : P.underlying t = some (.array m e)) (hz : szT P e = some z) :
    pev P (Op.equalIn (d + 1) t (.agg xs) (.agg ys)) = eqA P d e z xs ys (List.range m) := by
  simp only [Op.equalIn, pev_bind, pev_underlying, ht, Option.bind_some, sizeOf_szT hz]
  simp only [Std.Legacy.Range.forIn_eq_forIn_range', Std.Legacy.Range.size, Nat.sub_zero, Nat.add_one_sub_one, Nat.div_one, List.range_eq_range']
  generalize List.range' 0 m = l
  induction l with
  | nil => simp [eqA, pev_pure]
  | cons i l ih =>
    simp only [List.forIn_cons, eqA, pev_bind, pev_ite]
    cases pev P (part e xs (i * z)) with
    | none => rfl
    | some a =>
      simp only [Option.bind_some]
      cases pev P (part e ys (i * z)) with
      | none => rfl
      | some b =>
        simp only [Option.bind_some]
        cases pev P (Op.equalIn d e a b) with
        | none => rfl
        | some r =>
          cases r
          · simp only [Option.bind_some, Bool.not_false, if_true, pev_pure]
          · simp only [Option.bind_some, Bool.not_true, Bool.false_eq_true, if_false, pev_pure]
            exact ih
theorem allEq_nil (a b : List V) : allEq [] a b = match a, b with | [], [] => some true | _, _ => none := rfl
theorem allEq_cons (d : Lf) (ls : List Lf) (x y : V) (a b : List V) : allEq (d :: ls) (x :: a) (y :: b) = match leafEq d x y with | some true => allEq ls a b | some false => some false | none => none := rfl
theorem allEq_app : ∀ {l1 l2 : List Lf} {a b : List V}, l1.length ≤ a.length → l1.length ≤ b.length → ∀ {r : Bool}, allEq (l1 ++ l2) a b = some r →
    (allEq l1 (a.take l1.length) (b.take l1.length) = some true ∧ allEq l2 (a.drop l1.length) (b.drop l1.length) = some r) ∨ (allEq l1 (a.take l1.length) (b.take l1.length) = some false ∧ r = false)
  | [], l2, a, b, _, _, r, e => .inl ⟨by simp [allEq_nil], by simpa using e⟩
  | d :: l1, l2, [], b, ha, _, r, e => by simp at ha
  | d :: l1, l2, x :: a, [], _, hb, r, e => by simp at hb
  | d :: l1, l2, x :: a, y :: b, ha, hb, r, e => by
    simp only [List.length_cons, List.take_succ_cons, List.drop_succ_cons, List.cons_append, allEq_cons] at *
    cases hl : leafEq d x y with
    | none => rw [hl] at e; cases e
    | some q =>
      rw [hl] at e
      cases q with
      | true => simp only at e ⊢; exact allEq_app (by omega) (by omega) e
      | false => simp only [Option.some.injEq] at e ⊢; exact .inr ⟨trivial, e.symm⟩
/-- A value of a type, and its cells. -/
def Vf (P : Program) (T : TypeId) (c : List Value) (x : Value) : Prop :=
  match P.underlying T with
  | some (.array _ _) => x = .agg c.toArray
  | some (.struct _) => x = .agg c.toArray
  | _ => c = [x]
theorem part_vf {T : TypeId} {z : Nat} {c : List Value} {off : Nat} (hz : szT P T = some z) (hle : off + z ≤ c.length) {d : TypeDesc} (hu : P.underlying T = some d) (h1 : aggD d = false → z = 1) :
    ∃ x, pev P (part T c.toArray off) = some x ∧ Vf P T ((c.drop off).take z) x := by
  have hs : shp P T = some (aggD d, z) := by
    unfold shp szT at *
    rw [hu]
    cases hi : P.info? T with
    | none => rw [hi] at hz; cases hz
    | some i => rw [hi] at hz; simp only [Option.map_some, Option.some.injEq] at hz; simp [hz]
  rw [pev_part hs]
  cases hd : aggD d with
  | true =>
    refine ⟨_, if_pos rfl, ?_⟩
    have e2 : c.toArray.extract off (off + z) = ((c.drop off).take z).toArray := by apply Array.ext'; simp [List.take_drop]
    unfold Vf
    rw [hu]
    cases d <;> simp only [aggD, Bool.false_eq_true] at hd <;> simp only [e2]
  | false =>
    have hz1 := h1 hd
    subst hz1
    have hlt : off < c.length := by omega
    refine ⟨c[off], ?_, ?_⟩
    · simp [hlt]
    · have e2 : (c.drop off).take 1 = [c[off]] := by
        rw [List.drop_eq_getElem_cons hlt]; rfl
      unfold Vf
      rw [hu]
      cases d <;> simp only [aggD, Bool.true_eq_false] at hd <;> exact e2
theorem lvs_und {k : Nat} {T : TypeId} {ls : List Lf} (h : lvs P k T = some ls) : ∃ d, P.underlying T = some d ∧ (aggD d = false → ls.length = 1) := by
  cases k with
  | zero => cases h
  | succ k =>
    unfold lvs at h
    split at h
    · rename_i hu; cases h; exact ⟨_, hu, fun _ => rfl⟩
    · rename_i hu; cases h; exact ⟨_, hu, fun _ => rfl⟩
    · rename_i hu; cases h; exact ⟨_, hu, fun _ => rfl⟩
    · rename_i hu; exact ⟨_, hu, fun h => by cases h⟩
    · rename_i hu; exact ⟨_, hu, fun h => by cases h⟩
    · cases h
theorem repLf_len (n : Nat) (l : List Lf) : (repLf n l).length = n * l.length := by
  induction n with
  | zero => simp [repLf]
  | succ n ih => rw [repLf, List.length_append, ih, Nat.add_mul]; omega
def lvStep (P : Program) (n : Nat) (acc : Option (List Lf)) (f : Field) : Option (List Lf) := match acc, lvs P n f.type, szT P f.type with
  | some a, some l, some z => (match f.name == "_", Nat.beq f.offset a.length, Nat.beq z l.length with | false, true, true => some (a ++ l) | _, _, _ => none)
  | _, _, _ => none
theorem lvStep_none (n : Nat) : ∀ fs : List Field, fs.foldl (lvStep P n) none = none
  | [] => rfl
  | f :: fs => by rw [List.foldl_cons]; exact lvStep_none n fs
theorem lvStep_some {n : Nat} {a : List Lf} {f : Field} {r : List Lf} (h : lvStep P n (some a) f = some r) : ∃ l, lvs P n f.type = some l ∧ szT P f.type = some l.length ∧ f.name ≠ "_" ∧ f.offset = a.length ∧ r = a ++ l := by
  unfold lvStep at h
  split at h
  · rename_i a' l z ha hl hz
    cases ha
    split at h
    · rename_i h1 h2 h3
      cases h
      have h3 := Nat.eq_of_beq_eq_true h3
      exact ⟨l, hl, by rw [hz, h3], by simpa using h1, Nat.eq_of_beq_eq_true h2, rfl⟩
    · cases h
  · cases h
theorem fold_len {n : Nat} : ∀ {fs : List Field} {a r : List Lf}, fs.foldl (lvStep P n) (some a) = some r → ∃ t, r = a ++ t
  | [], a, r, h => by cases h; exact ⟨[], by simp⟩
  | f :: fs, a, r, h => by
    rw [List.foldl_cons] at h
    cases hs : lvStep P n (some a) f with
    | none => rw [hs, lvStep_none] at h; cases h
    | some a' =>
      rw [hs] at h
      obtain ⟨t, rfl⟩ := fold_len h
      obtain ⟨l, _, _, _, _, rfl⟩ := lvStep_some hs
      exact ⟨l ++ t, by simp⟩
def LvOk (P : Program) (ρ : Vl) (n : Nat) : Prop := ∀ (T : TypeId) (ls : List Lf), lvs P n T = some ls → ∀ d, n ≤ d → ∀ (lx ly : List V) (cx cy : List Value) (x y : Value) (b : Bool), RVs ρ lx cx → RVs ρ ly cy → lx.length = ls.length → ly.length = ls.length →
    allEq ls lx ly = some b → Vf P T cx x → Vf P T cy y → pev P (Op.equalIn d T x y) = some b
theorem rvs1 {v : V} {x : Value} {l : List V} (h : RVs ρ l [x]) (hl : l = [v]) : RV ρ v x := by subst hl; cases h with | cons _ _ _ _ h _ => exact h
theorem leaf_sound {n d : Nat} {T : TypeId} {lf : Lf} {lx ly : List V} {cx cy : List Value} {x y : Value} {b : Bool} (hu : match lf with | .i => ∃ k, P.underlying T = some (.int k) | .b => P.underlying T = some .bool | .s => P.underlying T = some .string)
    (hx : RVs ρ lx cx) (hy : RVs ρ ly cy) (he : allEq [lf] lx ly = some b) (hcx : cx = [x]) (hcy : cy = [y]) : pev P (Op.equalIn (d + 1) T x y) = some b := by
  subst hcx
  subst hcy
  cases hx with
  | cons v _ l _ hv hn =>
    cases hn
    cases hy with
    | cons u _ m _ hu' hn =>
      cases hn
      rw [allEq_cons] at he
      have he2 : leafEq lf v u = some b := by
        cases hl : leafEq lf v u with
        | none => rw [hl] at he; cases he
        | some q => rw [hl] at he; cases q <;> simp only [allEq_nil] at he <;> exact he
      clear he
      have he := he2; clear he2
      unfold leafEq at he
      cases lf with
      | i =>
        obtain ⟨k, hu⟩ := hu
        simp only at he
        split at he
        · split at he
          · rename_i hk
            have := kbeq_eq hk
            subst this
            simp only [Option.some.injEq] at he
            subst he
            rw [rv_int hv, rv_int hu', eqI_eq]
            simp [Op.equalIn, pev_bind, pev_underlying, hu, pev_pure]
          · cases he
        · cases he
      | b =>
        simp only at he
        split at he
        · simp only [Option.some.injEq] at he
          subst he
          cases hv; cases hu'
          rw [boolEq_eq]
          simp only at hu
          simp [Op.equalIn, pev_bind, pev_underlying, hu, pev_pure]
        · cases he
      | s =>
        simp only at he
        split at he
        · simp only [Option.some.injEq] at he
          subst he
          cases hv with
          | str _ h1 =>
            cases hu' with
            | str _ h2 =>
              simp only at hu
              rw [← strEq_bytes h1 h2]
              simp [Op.equalIn, pev_bind, pev_underlying, hu, pev_pure, beq_toListBytes]
        · cases he
theorem RVs.len_eq {l m : List V} {xs ys : List Value} (h : RVs ρ l xs) (h' : RVs ρ m ys) (e : l.length = m.length) : xs.length = ys.length := by rw [← h.len, ← h'.len, e]
theorem fields_sound {n d : Nat} (hd : n ≤ d) (ih : LvOk P ρ n) {cx cy : List Value} {lx ly : List V} (hx : RVs ρ lx cx) (hy : RVs ρ ly cy) : ∀ {fs : List Field} {a t : List Lf}, fs.foldl (lvStep P n) (some a) = some (a ++ t) → lx.length = a.length + t.length → ly.length = a.length + t.length →
    ∀ {b : Bool}, allEq t (lx.drop a.length) (ly.drop a.length) = some b → eqF P d cx.toArray cy.toArray fs = some b
  | [], a, t, h, hlx, hly, b, e => by
    rw [List.foldl_nil, Option.some.injEq] at h
    have : t = [] := by
      have := congrArg List.length h
      rw [List.length_append] at this
      exact List.eq_nil_of_length_eq_zero (by omega)
    subst this
    rw [List.drop_of_length_le (by simp at hlx; omega), List.drop_of_length_le (by simp at hly; omega)] at e
    exact e
  | f :: fs, a, t, h, hlx, hly, b, e => by
    rw [List.foldl_cons] at h
    cases hs : lvStep P n (some a) f with
    | none => rw [hs, lvStep_none] at h; cases h
    | some a' =>
      rw [hs] at h
      obtain ⟨t', ht'⟩ := fold_len h
      obtain ⟨l, h1, h2, h3, h4, rfl⟩ := lvStep_some hs
      have htt : t = l ++ t' := by rw [List.append_assoc] at ht'; exact List.append_cancel_left ht'
      subst htt
      rw [List.length_append] at hlx hly
      obtain ⟨dd, hdu, hd1⟩ := lvs_und h1
      have hcx := hx.len
      have hcy := hy.len
      obtain ⟨x, px, vx⟩ := part_vf (c := cx) (off := a.length) h2 (by omega) hdu hd1
      obtain ⟨y, py, vy⟩ := part_vf (c := cy) (off := a.length) h2 (by omega) hdu hd1
      have hq := allEq_app (l1 := l) (l2 := t') (a := lx.drop a.length) (b := ly.drop a.length) (by rw [List.length_drop]; omega) (by rw [List.length_drop]; omega) e
      have go : ∀ q, allEq l ((lx.drop a.length).take l.length) ((ly.drop a.length).take l.length) = some q → pev P (Op.equalIn d f.type x y) = some q := fun q hq =>
        ih f.type l h1 d hd _ _ _ _ x y q ((hx.drop _).take _) ((hy.drop _).take _) (by rw [List.length_take, List.length_drop]; omega) (by rw [List.length_take, List.length_drop]; omega) hq vx vy
      rw [eqF, if_pos h3, h4, px, py]
      simp only [Option.bind_some]
      rcases hq with ⟨hq1, hq2⟩ | ⟨hq1, rfl⟩
      · rw [go _ hq1]
        simp only [Option.bind_some, Bool.not_true, Bool.false_eq_true, if_false]
        refine fields_sound hd ih hx hy (a := a ++ l) (t := t') (by rw [h, ht']) (by rw [List.length_append]; omega) (by rw [List.length_append]; omega) ?_
        rw [List.length_append, ← List.drop_drop, ← List.drop_drop]; exact hq2
      · rw [go _ hq1]; rfl
theorem elems_eq {n d : Nat} (hd : n ≤ d) (ih : LvOk P ρ n) {cx cy : List Value} {lx ly : List V} (hx : RVs ρ lx cx) (hy : RVs ρ ly cy) {e : TypeId} {l : List Lf} (hl : lvs P n e = some l) (hz : szT P e = some l.length) : ∀ (m k : Nat), lx.length = (k + m) * l.length → ly.length = (k + m) * l.length →
    ∀ {b : Bool}, allEq (repLf m l) (lx.drop (k * l.length)) (ly.drop (k * l.length)) = some b → eqA P d e l.length cx.toArray cy.toArray (List.range' k m) = some b
  | 0, k, hlx, hly, b, h => by
    rw [Nat.add_zero] at hlx hly
    rw [List.drop_of_length_le (by omega), List.drop_of_length_le (by omega)] at h
    exact h
  | m + 1, k, hlx, hly, b, h => by
    obtain ⟨dd, hdu, hd1⟩ := lvs_und hl
    have hcx := hx.len
    have hcy := hy.len
    have hkm : (k + (m + 1)) * l.length = k * l.length + l.length + m * l.length := by rw [Nat.add_mul, Nat.add_mul]; omega
    obtain ⟨x, px, vx⟩ := part_vf (c := cx) (off := k * l.length) hz (by omega) hdu hd1
    obtain ⟨y, py, vy⟩ := part_vf (c := cy) (off := k * l.length) hz (by omega) hdu hd1
    have hq := allEq_app (l1 := l) (l2 := repLf m l) (a := lx.drop (k * l.length)) (b := ly.drop (k * l.length)) (by rw [List.length_drop]; omega) (by rw [List.length_drop]; omega) h
    have go : ∀ q, allEq l ((lx.drop (k * l.length)).take l.length) ((ly.drop (k * l.length)).take l.length) = some q → pev P (Op.equalIn d e x y) = some q := fun q hq =>
      ih e l hl d hd _ _ _ _ x y q ((hx.drop _).take _) ((hy.drop _).take _) (by rw [List.length_take, List.length_drop]; omega) (by rw [List.length_take, List.length_drop]; omega) hq vx vy
    rw [List.range'_succ, eqA, px, py]
    simp only [Option.bind_some]
    rcases hq with ⟨hq1, hq2⟩ | ⟨hq1, rfl⟩
    · rw [go _ hq1]
      simp only [Option.bind_some, Bool.not_true, Bool.false_eq_true, if_false]
      refine elems_eq hd ih hx hy hl hz m (k + 1) (by rw [hlx]; congr 1; omega) (by rw [hly]; congr 1; omega) ?_
      rw [Nat.add_mul, Nat.one_mul, ← List.drop_drop, ← List.drop_drop]; exact hq2
    · rw [go _ hq1]; rfl
theorem lvs_sound : ∀ n, LvOk P ρ n
  | 0 => fun T ls h => by cases h
  | n + 1 => fun T ls h d hd lx ly cx cy x y b hx hy hlx hly he vx vy => by
    obtain ⟨d, rfl⟩ : ∃ d', d = d' + 1 := ⟨d - 1, by omega⟩
    unfold lvs at h
    unfold Vf at vx vy
    split at h
    · rename_i k hu; rw [hu] at vx vy; cases h; exact leaf_sound (n := 0) (lf := .i) ⟨k, hu⟩ hx hy he vx vy
    · rename_i hu; rw [hu] at vx vy; cases h; exact leaf_sound (n := 0) (lf := .b) hu hx hy he vx vy
    · rename_i hu; rw [hu] at vx vy; cases h; exact leaf_sound (n := 0) (lf := .s) hu hx hy he vx vy
    · rename_i m e hu
      rw [hu] at vx vy
      subst vx vy
      split at h
      · rename_i l hl
        split at h
        · rename_i z hz
          split at h
          · rename_i hzl
            have := Nat.eq_of_beq_eq_true hzl
            subst this
            cases h
            rw [pev_array d T _ _ hu hz, List.range_eq_range']
            rw [repLf_len] at hlx hly
            exact elems_eq (by omega) (lvs_sound n) hx hy hl hz m 0 (by rw [Nat.zero_add]; exact hlx) (by rw [Nat.zero_add]; exact hly) (by rw [Nat.zero_mul]; exact he)
          · cases h
        · cases h
      · cases h
    · rename_i fs hu
      rw [hu] at vx vy
      subst vx vy
      split at h
      · cases h
      · rename_i hp
        rw [pev_struct d T _ _ hu hp]
        have h : fs.toList.foldl (lvStep P n) (some []) = some ls := h
        exact fields_sound (a := []) (t := ls) (by omega) (lvs_sound n) hx hy (by simpa using h) (by simpa using hlx) (by simpa using hly) he
    · cases h
end
end Go.Proofs.YthdaccndnfgeeaaGreatDoor.CM
