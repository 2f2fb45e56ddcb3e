/- What the evaluator reads and writes is what the model reads and writes. No program in sight. -/
import Derived.Test.YthdaccndnfgeeaaGreatDoorEvO
namespace Go.Proofs.YthdaccndnfgeeaaGreatDoor.CM
open Go
section
variable {P : Program} {ρ : Vl}

/-! ### Rows of elements -/
theorem cats_drop {z : Nat} : ∀ {es : List V} (q : Nat), (∀ e ∈ es, (celV e).length = z) → (cats es).drop (q * z) = cats (es.drop q)
  | es, 0, _ => by simp
  | [], q + 1, _ => by simp [cats_nil]
  | e :: es, q + 1, h => by
    have he := h e (List.mem_cons_self ..)
    have ih := cats_drop (es := es) q (fun e' h' => h e' (List.mem_cons_of_mem _ h'))
    rw [cats_cons, List.drop_succ_cons, ← ih, Nat.succ_mul, Nat.add_comm, ← List.drop_drop, ← he, List.drop_left]
theorem cats_take {z : Nat} : ∀ {es : List V} (q : Nat), (∀ e ∈ es, (celV e).length = z) → (cats es).take (q * z) = cats (es.take q)
  | es, 0, _ => by simp [cats_nil]
  | [], q + 1, _ => by simp [cats_nil]
  | e :: es, q + 1, h => by
    have he := h e (List.mem_cons_self ..)
    have ih := cats_take (es := es) q (fun e' h' => h e' (List.mem_cons_of_mem _ h'))
    rw [cats_cons, List.take_succ_cons, cats_cons, ← ih, Nat.succ_mul, Nat.add_comm, ← he, List.take_length_add_append]
theorem cats_len {z : Nat} : ∀ {es : List V}, (∀ e ∈ es, (celV e).length = z) → (cats es).length = es.length * z
  | [], _ => by simp [cats_nil]
  | e :: es, h => by
    rw [cats_cons, List.length_append, cats_len (es := es) (fun e' h' => h e' (List.mem_cons_of_mem _ h')), h e (List.mem_cons_self ..), List.length_cons, Nat.succ_mul]; omega
theorem cats_at {z q : Nat} {es : List V} {e : V} (h : ∀ e ∈ es, (celV e).length = z) (he : es[q]? = some e) : (cats es).drop (q * z) = celV e ++ cats (es.drop (q + 1)) := by
  rw [cats_drop q h]
  obtain ⟨hq, rfl⟩ := List.getElem?_eq_some_iff.1 he
  rw [List.drop_eq_getElem_cons hq, cats_cons]
theorem flat1 {l : List V} {xs : List Value} (h : RVs ρ l xs) (hs : xs.all scalarV = true) : cats l = l ∧ ∀ e ∈ l, (celV e).length = 1 := by
  induction l generalizing xs with
  | nil => exact ⟨rfl, fun e he => by simp at he⟩
  | cons v l ih =>
    cases h with
    | cons _ x _ xs h hs' =>
      simp only [List.all_cons, Bool.and_eq_true] at hs
      obtain ⟨h1, h2⟩ := ih hs' hs.2
      have hv : celV v = [v] := by
        cases h <;> first | rfl | (simp [scalarV] at hs)
      exact ⟨by rw [cats_cons, hv, h1]; rfl, fun e he => by rcases List.mem_cons.1 he with rfl | he; rw [hv]; rfl; exact h2 e he⟩
theorem all_take {l : List Value} (h : l.all scalarV = true) (n : Nat) : (l.take n).all scalarV = true := by
  rw [List.all_eq_true] at *; exact fun x hx => h x (List.mem_of_mem_take hx)
theorem all_drop {l : List Value} (h : l.all scalarV = true) (n : Nat) : (l.drop n).all scalarV = true := by
  rw [List.all_eq_true] at *; exact fun x hx => h x (List.mem_of_mem_drop hx)

/-- What is read. -/
theorem rdCells_sound {es : List V} {z o n : Nat} {ag : Bool} {v : V} {c : List Value} (hc : RVs ρ (cats es) c) (hz : ∀ e ∈ es, (celV e).length = z) (hs : c.all scalarV = true)
    (h : rdCells ag n es z o = some v) : if ag = true then o + n ≤ c.length ∧ RV ρ v (.agg ((c.drop o).take n).toArray) else ∃ x, c[o]? = some x ∧ RV ρ v x := by
  unfold rdCells at h
  rw [nth?_eq] at h
  have hd : Nat.div o z = o / z := rfl
  have hm : Nat.mod o z = o % z := rfl
  simp only [hd, hm] at h
  have ho : o = (o / z) * z + o % z := by rw [Nat.mul_comm]; exact (Nat.div_add_mod o z).symm
  generalize o / z = q at *
  generalize o % z = r at *
  have hlen := hc.len
  split at h
  · cases h
  · rename_i e he
    have hat := cats_at hz he
    have hez : (celV e).length = z := hz e (List.mem_of_getElem? he)
    have hq : q < es.length := (List.getElem?_eq_some_iff.1 he).1
    have hcl := cats_len hz
    have hbig : q * z + z ≤ c.length := by rw [← hlen, hcl]; calc q * z + z = (q + 1) * z := by rw [Nat.succ_mul]
                                                                _ ≤ es.length * z := Nat.mul_le_mul_right _ hq
    have getAt : ∀ (j : Nat) (u : V), (celV e)[j]? = some u → (cats es)[q * z + j]? = some u := fun j u hu => by
      rw [← List.getElem?_drop, hat, List.getElem?_append_left (List.getElem?_eq_some_iff.1 hu).1, hu]
    split at h
    · simp only [Bool.false_eq_true, if_false]
      split at h
      · rename_i l
        rw [nth?_eq] at h
        have := getAt r v h
        rw [← ho] at this
        exact hc.get this
      · rename_i hna
        split at h
        · cases h
          have hce : celV v = [v] := by cases v <;> first | rfl | exact absurd rfl (hna _)
          have := getAt 0 v (by rw [hce]; rfl)
          rw [Nat.add_zero] at this
          rw [Nat.add_zero] at ho
          rw [ho]
          exact hc.get this
        · cases h
    · simp only [if_true]
      split at h
      · rename_i hn
        have hn := Nat.eq_of_beq_eq_true hn
        subst hn
        split at h
        · cases h
          rw [Nat.add_zero] at ho
          rw [ho]
          refine ⟨hbig, ?_⟩
          have h1 := (hc.drop (q * n)).take n
          rw [hat, List.take_left' hez] at h1
          exact .agg _ _ h1 (all_take (all_drop hs _) _)
        · cases h
      · split at h
        · split at h
          · rename_i hle
            have hle := Nat.le_of_ble_eq_true hle
            have hle : r + n ≤ z := hle
            cases h
            rw [takeN_eq, dropN_eq]
            refine ⟨by omega, ?_⟩
            have h1 := (hc.drop o).take n
            rw [ho, ← List.drop_drop, hat, List.drop_append_of_le_length (by omega), List.take_append_of_le_length (by simp; omega)] at h1
            rw [ho]
            exact .agg _ _ h1 (all_take (all_drop hs _) _)
          · cases h
        · split at h
          · rename_i hz1
            have hz1 := Nat.eq_of_beq_eq_true hz1
            split at h
            · rename_i hle
              have hle := Nat.le_of_ble_eq_true hle
              rw [lenL_eq] at hle
              have hle : o + n ≤ es.length := hle
              cases h
              rw [takeN_eq, dropN_eq]
              refine ⟨by rw [← hlen, hcl, hz1]; omega, ?_⟩
              have h1 := (hc.drop o).take n
              have e1 : (cats es).drop o = cats (es.drop o) := by have := cats_drop (es := es) o hz; rw [hz1, Nat.mul_one] at this; exact this
              have e2 : (cats (es.drop o)).take n = cats ((es.drop o).take n) := by
                have := cats_take (es := es.drop o) n (fun e he => hz e (List.mem_of_mem_drop he)); rw [hz1, Nat.mul_one] at this; exact this
              rw [e1, e2] at h1
              exact .agg _ _ h1 (all_take (all_drop hs _) _)
            · cases h
          · cases h

theorem put1_eq (l : List V) (r : Nat) (v : V) (hr : r + (celV v).length ≤ l.length) : put1 l r v = l.take r ++ celV v ++ l.drop (r + (celV v).length) := by
  unfold put1
  split
  · rw [splL_eq]; rfl
  · rename_i hna
    have hce : celV v = [v] := by cases v <;> first | rfl | exact absurd rfl (hna _)
    rw [hce] at hr ⊢
    have hr : r + 1 ≤ l.length := hr
    rw [setL_eq, List.set_eq_take_append_cons_drop, if_pos (by omega)]
    simp
/-- What is written. -/
theorem wrCells_sound {es es' : List V} {z o : Nat} {v : V} {x : Value} {c : List Value} (hc : RVs ρ (cats es) c) (hz : ∀ e ∈ es, (celV e).length = z) (hv : RVs ρ (celV v) (cells x)) (hx : (cells x).all scalarV = true)
    (h : wrCells es z o v = some es') : o + (cells x).length ≤ c.length ∧ RVs ρ (cats es') (spl c o (cells x)) ∧ (∀ e ∈ es', (celV e).length = z) ∧ es'.length = es.length := by
  unfold wrCells at h
  have hd : Nat.div o z = o / z := rfl
  have hm : Nat.mod o z = o % z := rfl
  simp only [hd, hm, lenL_eq, nth?_eq, setL_eq, splL_eq] at h
  have ho : o = (o / z) * z + o % z := by rw [Nat.mul_comm]; exact (Nat.div_add_mod o z).symm
  generalize o / z = q at *
  generalize o % z = r at *
  have hlen := hc.len
  have hvl := hv.len
  have hcl := cats_len hz
  have fin : ∀ (m : List V), m = celV v → cats es' = (cats es).take o ++ m ++ (cats es).drop (o + m.length) → o + m.length ≤ (cats es).length → o + (cells x).length ≤ c.length ∧ RVs ρ (cats es') (spl c o (cells x)) := fun m hm he hl => by
    subst hm
    refine ⟨by omega, ?_⟩
    rw [he]
    unfold spl
    rw [hvl]
    exact ((hc.take o).app hv).app (hc.drop _)
  split at h
  · cases h
  · rename_i hq
    have hq : q < es.length := Nat.le_of_ble_eq_true hq
    have hset : ∀ (u : V), (celV u).length = z → cats (es.set q u) = (cats es).take (q * z) ++ celV u ++ (cats es).drop (q * z + z) := fun u hu => by
      rw [List.set_eq_take_append_cons_drop, if_pos hq, cats_app, cats_cons, cats_take q hz, List.append_assoc]
      congr 2
      rw [← Nat.succ_mul, cats_drop (q + 1) hz]
    have hbig : q * z + z ≤ (cats es).length := by rw [hcl]; calc q * z + z = (q + 1) * z := by rw [Nat.succ_mul]
                                                            _ ≤ es.length * z := Nat.mul_le_mul_right _ hq
    split at h
    · rename_i hvz
      have hvz := Nat.eq_of_beq_eq_true hvz
      split at h
      · cases h
        rw [Nat.add_zero] at ho
        obtain ⟨h1, h2⟩ := fin (celV v) rfl (by rw [hset v hvz, hvz, ho]) (by rw [hvz, ho]; exact hbig)
        refine ⟨h1, h2, fun e he => ?_, by simp⟩
        rcases List.mem_or_eq_of_mem_set he with he | rfl
        · exact hz e he
        · exact hvz
      · cases h
    · split at h
      · rename_i l he
        have hlz : l.length = z := hz _ (List.mem_of_getElem? he)
        have hat := cats_at hz he
        split at h
        · rename_i hle
          have hle := Nat.le_of_ble_eq_true hle
          have hle : r + (celV v).length ≤ z := hle
          rw [put1_eq l r v (by omega)] at h
          cases h
          have hcl2 : (celV (.agg (l.take r ++ celV v ++ l.drop (r + (celV v).length)))).length = z := by
            show (l.take r ++ celV v ++ l.drop (r + (celV v).length)).length = z
            simp only [List.length_append, List.length_take, List.length_drop]; omega
          have e0 : celV (.agg (l.take r ++ celV v ++ l.drop (r + (celV v).length))) = l.take r ++ celV v ++ l.drop (r + (celV v).length) := rfl
          have hat' : (cats es).drop (q * z) = l ++ cats (es.drop (q + 1)) := hat
          obtain ⟨h1, h2⟩ := fin (celV v) rfl (by
            rw [hset _ hcl2, e0]
            have e1 : (cats es).take o = (cats es).take (q * z) ++ l.take r := by
              rw [ho, List.take_add, hat', List.take_append_of_le_length (by omega)]
            have e2 : (cats es).drop (o + (celV v).length) = l.drop (r + (celV v).length) ++ (cats es).drop (q * z + z) := by
              rw [ho, Nat.add_assoc, ← List.drop_drop, hat', List.drop_append_of_le_length (by omega)]
              congr 1
              have : (cats es).drop (q * z + z) = ((cats es).drop (q * z)).drop z := by rw [List.drop_drop]
              rw [this, hat', List.drop_left' hlz]
            rw [e1, e2]; simp only [List.append_assoc]) (by omega)
          refine ⟨h1, h2, fun e he => ?_, by simp⟩
          rcases List.mem_or_eq_of_mem_set he with he | rfl
          · exact hz e he
          · exact hcl2
        · cases h
      · split at h
        · rename_i hz1
          have hz1 := Nat.eq_of_beq_eq_true hz1
          split at h
          · rename_i hle
            have hle := Nat.le_of_ble_eq_true hle
            have hle : o + (celV v).length ≤ es.length := hle
            cases h
            obtain ⟨f1, f2⟩ := flat1 hv hx
            have t1 : (cats es).take o = cats (es.take o) := by have := cats_take (es := es) o hz; rw [hz1, Nat.mul_one] at this; exact this
            have t2 : (cats es).drop (o + (celV v).length) = cats (es.drop (o + (celV v).length)) := by have := cats_drop (es := es) (o + (celV v).length) hz; rw [hz1, Nat.mul_one] at this; exact this
            obtain ⟨h1, h2⟩ := fin (celV v) rfl (by rw [cats_app, cats_app, t1, t2, f1]) (by rw [hcl, hz1]; omega)
            refine ⟨h1, h2, fun e he => ?_, by simp; omega⟩
            rcases List.mem_append.1 he with he | he
            · rcases List.mem_append.1 he with he | he
              · exact hz e (List.mem_of_mem_take he)
              · rw [hz1]; exact f2 e he
            · exact hz e (List.mem_of_mem_drop he)
          · cases h
        · cases h
end
end Go.Proofs.YthdaccndnfgeeaaGreatDoor.CM
