/- Operations that meet memory: what the evaluator does is what the model does. No program in sight. -/
import Derived.Test.YthdaccndnfgeeaaGreatDoorEvM
namespace Go.Proofs.YthdaccndnfgeeaaGreatDoor.CM
open Go
def PV (B : Nat) (w0 : World) (ρ : Vl) (v : V) (h : Hp) (x : Value) (w : World) : Prop := ∃ ρ', Ext ρ ρ' ∧ RH B w0 ρ' h w ∧ RV ρ' v x
section
variable {P : Program} {ρ : Vl} {B : Nat} {w0 w : World} {h : Hp}
theorem PV.same {v : V} {x : Value} (H : RH B w0 ρ h w) (hx : RV ρ v x) : PV B w0 ρ v h x w := ⟨ρ, .refl _, H, hx⟩
theorem rv_undef : RV ρ undV undef := .tup [] [] .nil
theorem byteArr (s : ByteArray) : bytesOf (s.data.toList.map UInt8.toNat) = s := by
  unfold bytesOf
  cases s with
  | mk d => congr 1; apply Array.ext'; simp [List.map_map, Function.comp_def]
theorem absC_sound {x : Value} {v : V} (hv : absC x = some v) : RV ρ v x ∧ noTup v = true ∧ scalarV x = true := by
  unfold absC at hv
  split at hv <;> cases hv
  · exact ⟨.int _ _, rfl, rfl⟩
  · exact ⟨.bool _, rfl, rfl⟩
  · rename_i s
    refine ⟨?_, rfl, rfl⟩
    have := RV.str (ρ := ρ) (s.data.toList.map UInt8.toNat) (fun x hx => by
      obtain ⟨b, _, rfl⟩ := List.mem_map.1 hx; exact UInt8.toNat_lt b)
    rw [byteArr] at this; exact this
  · exact ⟨.nilp, rfl, rfl⟩
  · exact ⟨.nils, rfl, rfl⟩
  · exact ⟨.nilm, rfl, rfl⟩
  · exact ⟨.nilf, rfl, rfl⟩
theorem absL_sound : ∀ {l : List Value} {vs : List V}, absL l = some vs → RVs ρ vs l ∧ l.all scalarV = true
  | [], vs, h => by cases h; exact ⟨.nil, rfl⟩
  | c :: l, vs, h => by
    change (match absC c with | some v => (match absL l with | some vs => some (v :: vs) | none => none) | none => none) = some vs at h
    split at h
    · rename_i v hv
      split at h
      · rename_i vs' hvs
        cases h
        obtain ⟨h1, _, h3⟩ := absC_sound (ρ := ρ) hv
        obtain ⟨h4, h5⟩ := absL_sound hvs
        exact ⟨.cons _ _ _ _ h1 h4, by simp [h3, h5]⟩
      · cases h
    · cases h
theorem absV_sound {x : Value} {v : V} (hv : absV x = some v) : RV ρ v x ∧ noTup v = true := by
  unfold absV at hv
  split at hv
  · rename_i cs
    split at hv
    · rename_i l hl
      cases hv
      obtain ⟨h1, h2⟩ := absL_sound (ρ := ρ) hl
      have := RV.agg l cs.toList h1 h2
      rw [Array.toArray_toList] at this
      exact ⟨this, rfl⟩
    · cases hv
  · obtain ⟨h1, h2, _⟩ := absC_sound (ρ := ρ) hv; exact ⟨h1, h2⟩
theorem RV.cells' {v : V} {x : Value} (hx : RV ρ v x) (hn : noTup v = true) : RVs ρ (celV v) (CM.cells x) ∧ (CM.cells x).all scalarV = true := by
  refine ⟨hx.cells.resolve_right ?_, hx.scal.resolve_right ?_⟩ <;> (rintro ⟨l, rfl⟩; cases hn)

/-! ### New blocks -/
theorem one_cells {v : V} {x : Value} (hx : RV ρ v x) (hn : noTup v = true) (T : TypeId) (g : Nat) : RB ρ g (.cells [v] (lenL (celV v))) (some (cl (cells x) T)) := by
  obtain ⟨h1, h2⟩ := hx.cells' hn
  refine .cells _ _ _ _ ?_ ?_ h2 (0, 0) (.inl ⟨rfl, rfl⟩)
  · rw [cats_cons, cats_nil, List.append_nil]; exact h1
  · intro e he; simp only [List.mem_singleton] at he; subst he; rw [lenL_eq]
theorem bx_sound (H : RH B w0 ρ h w) (T : TypeId) {v : V} {x : Value} (hx : RV ρ v x) (hn : noTup v = true) :
    Nx P (bx T x) w (PV B w0 ρ (.ptr h.nx 0) (newB h (.cells [v] (lenL (celV v))))) := by
  rw [Nx_bx]
  exact ⟨_, H.new_ext (sz w, 0), H.alloc _ _ 0 (one_cells hx hn T 0), .ptr _ _ _ 0 (ρput_eq _ _ _)⟩
theorem zeroV_zc {T : TypeId} {v : V} (hz : zeroV P T = some v) : ∃ z, (∀ ρ, RV ρ v z) ∧ noTup v = true ∧ zc P T = some (cells z) ∧ ((P.info? T).bind (·.zero)) = some z := by
  unfold zeroV at hz
  split at hz
  · rename_i i hi
    split at hz
    · rename_i z hiz
      exact ⟨z, fun ρ => (absV_sound (ρ := ρ) hz).1, (absV_sound (ρ := ⟨fun _ => none, fun _ => none, fun _ => none⟩) hz).2, by simp [zc, hi, hiz], by simp [hi, hiz]⟩
    · cases hz
  · cases hz
theorem al_sound (H : RH B w0 ρ h w) (T : TypeId) {v : V} (hz : zeroV P T = some v) :
    Nx P (al T) w (PV B w0 ρ (.ptr h.nx 0) (newB h (.cells [v] (lenL (celV v))))) := by
  obtain ⟨z, h1, h2, h3, _⟩ := zeroV_zc hz
  rw [Nx_al, h3, AlK_some]
  exact ⟨_, H.new_ext (sz w, 0), H.alloc _ _ 0 (one_cells (h1 ρ) h2 T 0), .ptr _ _ _ 0 (ρput_eq _ _ _)⟩

/-! ### Reads and writes -/
theorem ld_sound (H : RH B w0 ρ h w) {T : TypeId} {b : Bp} {o n : Nat} {ag : Bool} {x : Value} {v : V} (hs : shp P T = some (ag, n)) (hx : RV ρ (.ptr b o) x) (hr : rdB ag n h b o = some v) :
    Rd P (ld T x) w (RV ρ v) := by
  cases hx with
  | ptr _ _ r g hρ =>
    rw [Rd_ld, hs]
    unfold rdB at hr
    have fin : ∀ (fr : Nat × Nat) (c post : List Value) (E : TypeId) (es : List V) (z : Nat), bk w r = some (clf (c ++ post) E fr) → RVs ρ (cats es) c → (∀ e ∈ es, (celV e).length = z) → (c ++ post).all scalarV = true → rdCells ag n es z o = some v →
        LdK (some (ag, n)) (bk w r) o (RV ρ v) := fun fr c post E es z hb hc hz hsc hr => by
      have hsc' : c.all scalarV = true := by rw [List.all_append, Bool.and_eq_true] at hsc; exact hsc.1
      have := rdCells_sound hc hz hsc' hr
      rw [hb]
      cases ag with
      | false =>
        simp only [Bool.false_eq_true, if_false] at this
        obtain ⟨x, h1, h2⟩ := this
        simp only [LdK, clf, List.getElem?_toArray]
        exact ⟨x, by rw [List.getElem?_append_left (List.getElem?_eq_some_iff.1 h1).1, h1], h2⟩
      | true =>
        simp only [if_true] at this
        obtain ⟨h1, h2⟩ := this
        simp only [LdK, clf, List.size_toArray]
        refine ⟨.inr (by simp; omega), ?_⟩
        rw [List.drop_append_of_le_length (by omega), List.take_append_of_le_length (by simp; omega)]
        exact h2
    split at hr
    · rename_i es z hb
      obtain ⟨r', g', e, hk⟩ := H.blk _ _ hb
      rw [hρ] at e; cases e
      generalize hw : bk w r = ob at hk
      cases hk with
      | cells _ _ c E hc hz hs fr hf => rw [← hw]; exact fin fr c [] E es z (by rw [hw, List.append_nil]) hc hz (by rw [List.append_nil]; exact hs) hr
    · rename_i es z hb
      obtain ⟨r', g', e, hk⟩ := H.blk _ _ hb
      rw [hρ] at e; cases e
      generalize hw : bk w r = ob at hk
      cases hk with
      | grow _ _ c post E hc hz hs hl hg fr hf => rw [← hw]; exact fin fr c post E es z hw hc hz hs hr
    · cases hr
theorem rp_ld (H : RH B w0 ρ h w) {T : TypeId} {r o n : Nat} {l : List V} {ag : Bool} {x : Value} {v : V} (hs : shp P T = some (ag, n)) (hx : RV ρ (.rp r o l) x) (hr : rdRp ag n l = some v) :
    Rd P (ld T x) w (RV ρ v) := by
  cases hx with
  | rp _ _ _ xs hl hsc hW =>
    rw [Rd_ld, hs]
    have cellsOf : xs ≠ [] → ∃ c0 T fr, bk w r = some (.cells c0 T fr) ∧ (c0.toList.drop o).take xs.length = xs := fun hne => by
      obtain ⟨c0, T, fr, h1, h2⟩ := hW.resolve_left hne
      obtain ⟨h3, h4⟩ := H.ro _ _ h1
      exact ⟨c0, T, fr, by rw [H.old _ h3, h4], h2⟩
    cases ag with
    | false =>
      have hr : nth? l 0 = some v := hr
      rw [nth?_eq] at hr
      obtain ⟨x, h1, h2⟩ := hl.get hr
      obtain ⟨c0, T, fr, h3, h4⟩ := cellsOf (fun e => by rw [e] at h1; simp at h1)
      rw [h3]
      refine ⟨x, ?_, h2⟩
      rw [← h4, List.getElem?_take] at h1
      split at h1
      · rw [List.getElem?_drop] at h1; simpa using h1
      · cases h1
    | true =>
      have hr : (match Nat.ble n (lenL l) with | true => some (V.agg (takeN n l)) | false => none) = some v := hr
      split at hr
      · rename_i hle
        have hle := Nat.le_of_ble_eq_true hle
        rw [lenL_eq] at hle
        cases hr
        rw [takeN_eq]
        have hxl := hl.len
        cases n with
        | zero =>
          have e : RV ρ (.agg (l.take 0)) (.agg #[]) := by
            have := RV.agg (ρ := ρ) [] [] .nil rfl
            simpa using this
          unfold LdK
          generalize bk w r = ob
          split
          · rename_i h; cases h
          · rename_i h; cases h; refine ⟨.inl rfl, ?_⟩; simpa using e
          · exact e
          · rename_i hno _ _; exact (hno rfl).elim
        | succ n =>
          obtain ⟨c0, T, fr, h3, h4⟩ := cellsOf (fun e => by rw [e] at hxl; simp only [List.length_nil] at hxl; omega)
          have hlen : xs.length ≤ (c0.toList.drop o).length := by
            have : ((c0.toList.drop o).take xs.length).length = xs.length := by rw [h4]
            rw [List.length_take] at this; omega
          rw [h3]
          refine ⟨.inr ?_, ?_⟩
          · rw [List.length_drop] at hlen; simp at hlen; omega
          · have e : (c0.toList.drop o).take (n + 1) = xs.take (n + 1) := by
              conv => rhs; rw [← h4]
              rw [List.take_take, Nat.min_eq_left (by omega)]
            rw [e]
            exact .agg _ _ (hl.take _) (all_take hsc _)
      · cases hr
theorem bk_wr_self {w : World} {r : Nat} {c c' : List Value} {T : TypeId} {fr : Nat × Nat} (hb : bk w r = some (clf c T fr)) : bk (wr w r c') r = some (clf c' T fr) := by
  rw [bk_wr, if_pos rfl, hb]; rfl
theorem spl_app {c post m : List Value} {o : Nat} (ho : o + m.length ≤ c.length) : spl (c ++ post) o m = spl c o m ++ post := by
  unfold spl
  rw [List.take_append_of_le_length (by omega), List.drop_append_of_le_length (by omega)]
  simp only [List.append_assoc]
theorem spl_all {c m : List Value} {o : Nat} (hc : c.all scalarV = true) (hm : m.all scalarV = true) : (spl c o m).all scalarV = true := by
  unfold spl; simp only [List.all_append, Bool.and_eq_true]; exact ⟨⟨all_take hc _, hm⟩, all_drop hc _⟩
theorem spl_len {c m : List Value} {o : Nat} (ho : o + m.length ≤ c.length) : (spl c o m).length = c.length := by
  unfold spl; simp; omega
theorem st_sound (H : RH B w0 ρ h w) {T : TypeId} {b : Bp} {o n : Nat} {x y : Value} {v : V} {h' : Hp} (hs : szT P T = some n) (hx : RV ρ (.ptr b o) x) (hy : RV ρ v y) (hr : wrB n h b o v = some h') :
    Nx P (st T x y) w (PV B w0 ρ undV h') := by
  cases hx with
  | ptr _ _ r g hρ =>
    unfold wrB at hr
    split at hr
    · cases hr
    · rename_i hcond
      have hcond : Nat.beq (lenL (celV v)) n = true ∧ noTup v = true := by
        split at hcond
        · rename_i e; exact ⟨e, hcond⟩
        · cases hcond
      have hlen := Nat.eq_of_beq_eq_true hcond.1
      rw [lenL_eq] at hlen
      obtain ⟨hvc, hvs⟩ := hy.cells' hcond.2
      rw [Nx_st, hs, szD_some]
      have hsz : y.cells.size = n := by have := hvc.len; rw [← hlen, this]; simp [CM.cells]
      have go : ∀ (fr : Nat × Nat) (c : List Value) (E : TypeId) (K : Value → World → Prop) (no : Prop), bk w r = some (clf c E fr) → frOk fr c.length → o + (cells y).length ≤ c.length → K undef (wr w r (spl c o (cells y))) → StK n (bk w r) o y w r no K := fun fr c E K no hb hf ho hK => by
        have hn : (cells y).length = n := by rw [← hvc.len, hlen]
        rw [hb]
        simp only [StK, clf]
        rw [if_pos]
        · exact hK
        · refine ⟨hsz, ?_, ?_, hvs⟩
          · simp only [List.size_toArray]; omega
          · rcases hf with hf | hf <;> omega
      split at hr
      · rename_i es z hb
        obtain ⟨r', g', e, hk⟩ := H.blk _ _ hb
        rw [hρ] at e; cases e
        split at hr
        · rename_i es' hw'
          cases hr
          generalize hw : bk w r = ob at hk
          cases hk with
          | cells _ _ c E hc hz hs' fr hf =>
            obtain ⟨h1, h2, h3, _⟩ := wrCells_sound hc hz hvc hvs hw'
            rw [← hw]
            exact go fr c E _ _ hw hf h1 ⟨ρ, .refl _, H.turn hb (by simp) hρ (fun r' hr' => by rw [bk_wr, if_neg hr']) (sz_wr ..) rfl (by rw [bk_wr_self hw]; exact .cells _ _ _ _ h2 h3 (spl_all hs' hvs) fr (by rw [spl_len h1]; exact hf)), rv_undef⟩
        · cases hr
      · rename_i es z hb
        obtain ⟨r', g', e, hk⟩ := H.blk _ _ hb
        rw [hρ] at e; cases e
        split at hr
        · rename_i es' hw'
          cases hr
          generalize hw : bk w r = ob at hk
          cases hk with
          | grow _ _ c post E hc hz hs' hl hg fr hf =>
            obtain ⟨h1, h2, h3, h4⟩ := wrCells_sound hc hz hvc hvs hw'
            have hs1 : c.all scalarV = true ∧ post.all scalarV = true := by rw [List.all_append, Bool.and_eq_true] at hs'; exact hs'
            rw [← hw]
            refine go fr (c ++ post) E _ _ hw hf (by simp; omega) ⟨ρ, .refl _, H.turn hb (by simp) hρ (fun r' hr' => by rw [bk_wr, if_neg hr']) (sz_wr ..) rfl ?_, rv_undef⟩
            rw [bk_wr_self hw, spl_app h1]
            exact .grow _ _ _ _ _ h2 h3 (by rw [List.all_append, Bool.and_eq_true]; exact ⟨spl_all hs1.1 hvs, hs1.2⟩) (by rw [List.length_append, spl_len h1, ← List.length_append]; exact hl) (by rw [h4]; exact hg) fr (by rw [List.length_append, spl_len h1, ← List.length_append]; exact hf)
        · cases hr
      · cases hr
end
end Go.Proofs.YthdaccndnfgeeaaGreatDoor.CM
