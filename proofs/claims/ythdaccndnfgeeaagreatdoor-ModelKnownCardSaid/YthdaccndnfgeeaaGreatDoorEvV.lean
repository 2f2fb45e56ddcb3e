/- Slices made and built; conversions. No program in sight. -/
import Derived.Test.YthdaccndnfgeeaaGreatDoorEvU
namespace Go.Proofs.YthdaccndnfgeeaaGreatDoor.CM
open Go
section
variable {P : Program} {ρ : Vl} {B : Nat} {w0 w : World} {h h' : Hp} {n : Nat} {rg : Rg} {a : Act} {call : Cl} {o : Oper} {v : V}
theorem rep_cells (zs : List Value) (n : Nat) : ((Array.range (n * zs.length)).map (zs.toArray[· % zs.toArray.size]!)) = (List.replicate n zs).flatten.toArray := by
  apply Array.ext'
  simp only [Array.toList_map, Array.toList_range, List.size_toArray]
  induction n with
  | zero => simp
  | succ n ih =>
    rw [List.replicate_succ', List.flatten_append, ← ih, Nat.add_mul, Nat.one_mul, List.range_add, List.map_append]
    congr 1
    apply List.ext_getElem
    · simp
    · intro j h1 h2
      simp at h1 h2
      simp only [List.getElem_map, List.getElem_range]
      have e : (n * zs.length + j) % zs.length = j := by rw [Nat.mul_comm, Nat.mul_add_mod]; exact Nat.mod_eq_of_lt h1
      rw [e]
      simp [h1]
theorem zc_rep (x : Value) (k z : Nat) (c3 : (CM.cells x).length = z) (zero : Array Value) (h0 : k * z = 0 ∨ zero = x.cells) : (Array.range (k * z)).map (fun j => zero[j % zero.size]!) = (List.replicate k (CM.cells x)).flatten.toArray := by
  rcases h0 with h0 | rfl
  · have : (List.replicate k (CM.cells x)).flatten = [] := by
      apply List.eq_nil_of_length_eq_zero
      simp only [List.length_flatten, List.map_replicate, List.sum_replicate_nat, c3]
      exact h0
    rw [this, h0]; simp
  · have := rep_cells (CM.cells x) k
    rw [c3] at this
    have e2 : (CM.cells x).toArray = x.cells := by unfold CM.cells; rw [Array.toArray_toList]
    rw [e2] at this
    exact this
theorem run_newRow (E : TypeId) (c : Array Value) (w : World) : (newRow E c).run P w = .ok ⟨sz w, 0, none⟩ (w.alloc (cl c.toList E)) := by
  unfold newRow newObj cl
  rw [Array.toArray_toList]
  rfl
theorem run_zero {e : TypeId} {i : TypeInfo} {x : Value} (hi : P.info? e = some i) (hz : i.zero = some x) (w : World) : (zeroValue e).run P w = .ok x w := by simp [zeroValue, typeInfo, hi, hz]
theorem run_typeInfo' {e : TypeId} {i : TypeInfo} (hi : P.info? e = some i) (w : World) : (typeInfo e).run P w = .ok i w := by simp [typeInfo, hi]
theorem rep_rvs {zv : V} {x : Value} (hx : RVs ρ (celV zv) (cells x)) : ∀ n, RVs ρ (cats (List.replicate n zv)) (List.replicate n (cells x)).flatten
  | 0 => .nil
  | n + 1 => by rw [List.replicate_succ, List.replicate_succ, cats_cons, List.flatten_cons]; exact hx.app (rep_rvs hx n)
theorem rep_all {x : Value} (hx : (cells x).all scalarV = true) (n : Nat) : (List.replicate n (cells x)).flatten.all scalarV = true := by
  rw [List.all_eq_true] at *
  intro y hy
  obtain ⟨l, hl, hy⟩ := List.mem_flatten.1 hy
  rw [List.eq_of_mem_replicate hl] at hy
  exact hx y hy
theorem cats_set {z i : Nat} {es : List V} {u : V} (hz : ∀ e ∈ es, (celV e).length = z) (hu : (celV u).length = z) (hi : i < es.length) :
    cats (es.set i u) = (cats es).take (i * z) ++ celV u ++ (cats es).drop (i * z + (celV u).length) := by
  rw [List.set_eq_take_append_cons_drop, if_pos hi, cats_app, cats_cons, ← cats_take _ hz, ← cats_drop _ hz, hu, Nat.add_mul, Nat.one_mul, List.append_assoc]
theorem bslF_sound {z N : Nat} : ∀ {ps : List (Nat × V)} {qs : List (Nat × Value)} {es es' : List V} {xs : List Value}, RPs ρ ps qs → RVs ρ (cats es) xs → (∀ e ∈ es, (celV e).length = z) → es.length = N → xs.all scalarV = true → bslF z N ps es = some es' →
      ∃ xs', Instr.fill (fun i => some (i * z, z)) xs.toArray qs = some xs'.toArray ∧ RVs ρ (cats es') xs' ∧ (∀ e ∈ es', (celV e).length = z) ∧ es'.length = N ∧ xs'.all scalarV = true
  | [], qs, es, es', xs, hps, hcs, hz, hN, hs, e => by cases hps; cases e; exact ⟨xs, rfl, hcs, hz, hN, hs⟩
  | (i, u) :: ps, qs, es, es', xs, hps, hcs, hz, hN, hs, e => by
    cases hps with
    | cons _ _ x _ qs hx hps =>
      have e : (match Nat.beq (lenL (celV u)) z && Nat.blt i N && noTup u with
        | true => bslF z N ps (setL es i u)
        | false => none) = some es' := e
      split at e
      · rename_i hc
        simp only [Bool.and_eq_true] at hc
        have hlen := Nat.eq_of_beq_eq_true hc.1.1
        have hi : i < N := Nat.le_of_ble_eq_true hc.1.2
        rw [lenL_eq] at hlen
        obtain ⟨hvc, hvs⟩ := hx.cells' hc.2
        rw [setL_eq] at e
        have hcl : (cells x).length = z := by rw [← hvc.len, hlen]
        have hxl := hcs.len
        rw [cats_len hz, hN] at hxl
        have hle : i * z + z ≤ xs.length := by
          rw [← hxl]
          have : (i + 1) * z ≤ N * z := Nat.mul_le_mul_right _ hi
          rw [Nat.add_mul, Nat.one_mul] at this; exact this
        have hspl : RVs ρ (cats (es.set i u)) (CM.spl xs (i * z) (cells x)) := by
          rw [cats_set hz hlen (by omega)]
          exact hcs.spl hvc _
        obtain ⟨xs', h3, h4, h5, h6, h7⟩ := bslF_sound (N := N) hps hspl (fun e he => by
          rcases List.mem_or_eq_of_mem_set he with he | rfl
          · exact hz e he
          · exact hlen) (by simp [hN]) (spl_all hs hvs) e
        refine ⟨xs', ?_, h4, h5, h6, h7⟩
        simp only [Instr.fill]
        have hcs2 : x.cells.size = z := by rw [← hcl]; simp [CM.cells]
        rw [if_neg (by simp; constructor <;> omega)]
        have e4 : (x.cells.zipIdx.foldl (fun cs (c, j) => cs.setIfInBounds (i * z + j) c) xs.toArray) = (CM.spl xs (i * z) (cells x)).toArray := by
          have := fold_spl (i * z) x.cells.toList 0 xs.toArray (by simp; omega)
          simp only [Nat.add_zero] at this
          rw [← Array.foldl_toList, Array.toList_zipIdx]
          exact this
        rw [e4]
        exact h3
      · cases e
structure ElT (P : Program) (T : TypeId) (zv : V) (z bytes : Nat) (e : TypeId) (i : TypeInfo) (x : Value) : Prop where
  sl : P.underlying T = some (.slice e)
  info : P.info? e = some i
  zero : i.zero = some x
  rv : ∀ ρ, RV ρ zv x
  nt : noTup zv = true
  len : (celV zv).length = z
  size : i.size = z
  bytes : i.bytes = bytes
theorem elE_some {T : TypeId} {zv : V} {z bytes : Nat} (hs : elE P T = some (zv, z, bytes)) : ∃ e i x, ElT P T zv z bytes e i x := by
  unfold elE at hs
  split at hs
  · rename_i e hu
    split at hs
    · rename_i i hi
      split at hs
      · rename_i zv' hz
        split at hs
        · rename_i hl
          cases hs
          obtain ⟨x, h1, h2, _, h4⟩ := zeroV_zc hz
          rw [hi] at h4
          exact ⟨e, i, x, hu, hi, h4, h1, h2, by rw [← lenL_eq]; exact Nat.eq_of_beq_eq_true hl, rfl, rfl⟩
        · cases hs
      · cases hs
    · cases hs
  · cases hs
theorem ElT.cells {T : TypeId} {zv : V} {z bytes : Nat} {e : TypeId} {i : TypeInfo} {x : Value} (E : ElT P T zv z bytes e i x) (ρ : Vl) : RVs ρ (celV zv) (CM.cells x) ∧ (CM.cells x).all scalarV = true ∧ (CM.cells x).length = z := by
  obtain ⟨h1, h2⟩ := (E.rv ρ).cells' E.nt
  exact ⟨h1, h2, by rw [← h1.len]; exact E.len⟩
theorem bsl_run {T : TypeId} {k : Nat} {ps : List (Nat × V)} {qs : List (Nat × Value)} (hps : RPs ρ ps qs) (e : bslK (elE P T) k ps h = some (v, h')) :
    ∃ es z xs el, v = .sl h.nx 0 k k ∧ h' = newB h (.cells es z) ∧ RB ρ 0 (.cells es z) (some (cl xs el)) ∧ (∀ w, (Instr.buildSlice T k qs.toArray).run P w = .ok (.slice (some ⟨sz w, 0, none⟩) k k) (w.alloc (cl xs el))) ∧ ∀ h2, bslK (elE P T) k ps h2 = some (.sl h2.nx 0 k k, newB h2 (.cells es z)) := by
  have e0 := e
  unfold bslK at e
  split at e
  · rename_i zv z bytes hE
    obtain ⟨el, i, x, E⟩ := elE_some hE
    split at e
    · rename_i hle
      have hle := Nat.le_of_ble_eq_true hle
      change k * z ≤ 16777216 at hle
      split at e
      · rename_i es hes
        obtain ⟨rfl, rfl⟩ := some_pair e
        rw [repL_eq] at hes
        obtain ⟨c1, c2, c3⟩ := E.cells ρ
        obtain ⟨xs', g1, g2, g3, g4, g5⟩ := bslF_sound (N := k) hps (rep_rvs c1 k) (fun e he => by rw [List.eq_of_mem_replicate he]; exact E.len) (by simp) (rep_all c2 k) hes
        have hrun : ∀ w, (Instr.buildSlice T k qs.toArray).run P w = .ok (.slice (some ⟨sz w, 0, none⟩) k k) (w.alloc (cl xs' el)) := fun w => by
          have hsz := E.size
          subst hsz
          unfold Instr.buildSlice
          simp only [Sem.run_bind, run_underlying E.sl, Result.andThen_ok, run_sizeOf E.info]
          rw [if_neg (by omega)]
          by_cases h0 : k * i.size = 0
          · have hc := zc_rep x k i.size c3 #[] (.inl h0)
            rw [if_pos h0]
            simp only [Sem.run_pure, Result.andThen_ok, Sem.run_bind, hc, g1, run_newRow]
          · have hc := zc_rep x k i.size c3 x.cells (.inr rfl)
            rw [if_neg h0]
            simp only [Sem.run_pure, Result.andThen_ok, Sem.run_bind, run_zero E.info E.zero, hc, g1, run_newRow]
        refine ⟨es, z, xs', el, rfl, rfl, .cells _ _ _ _ g2 g3 g5 (0, 0) (.inl ⟨rfl, rfl⟩), hrun, fun h2 => ?_⟩
        rw [hE]
        unfold bslK
        simp only
        rw [show Nat.ble (Nat.mul k z) 16777216 = true from Nat.ble_eq_true_of_le hle]
        simp only [repL_eq, hes]
      · cases e
    · cases e
  · cases e
theorem bsl_sound (H : RH B w0 ρ h w) {T : TypeId} {k : Nat} {ps : List (Nat × V)} {qs : List (Nat × Value)} (hps : RPs ρ ps qs) (e : bslK (elE P T) k ps h = some (v, h')) :
    Nx P (bsl T k qs.toArray) w (PV B w0 ρ v h') := by
  obtain ⟨es, z, xs, el, rfl, rfl, h1, h2, _⟩ := bsl_run hps e
  exact Nx_val (h2 w) ⟨_, H.new_ext (sz w, 0), H.alloc _ _ 0 h1, .sl _ _ _ _ _ 0 (ρput_eq _ _ _)⟩
theorem wrap_small {k : Nat} (h : k ≤ 9223372036854775807) : IntKind.i64.wrap (Int.ofNat k) = Int.ofNat k := by
  rw [← natW_eq]
  unfold natW
  simp only
  rw [show Nat.ble k 9223372036854775807 = true from Nat.ble_eq_true_of_le h]
theorem mks_sound (H : RH B w0 ρ h w) {T : TypeId} {l c : Nat} {k1 k2 : IntKind} (e : mksK (elE P T) l c h = some (v, h')) :
    Nx P (mks T (.int k1 (.ofNat l)) (.int k2 (.ofNat c))) w (PV B w0 ρ v h') := by
  unfold mksK at e
  split at e
  · rename_i zv z bytes hE
    obtain ⟨el, i, x, E⟩ := elE_some hE
    split at e
    · rename_i hc0
      simp only [Bool.and_eq_true] at hc0
      have hlc := Nat.le_of_ble_eq_true hc0.1
      obtain ⟨hr1, hr2⟩ := roomB_le hc0.2
      obtain ⟨rfl, rfl⟩ := some_pair e
      obtain ⟨c1, c2, c3⟩ := E.cells ρ
      have hrun : (Instr.makeSlice T (.int k1 (.ofNat l)) (.int k2 (.ofNat c))).run P w = .ok (.slice (some ⟨sz w, 0, none⟩) l c) (w.alloc (cl (List.replicate c (CM.cells x)).flatten el)) := by
        have hby := E.bytes
        subst hby
        have hsz := E.size
        subst hsz
        have hwl := wrap_small (k := l) (by omega)
        have hwc := wrap_small (k := c) (by omega)
        have hi1 : ¬ ((i.bytes : Int) * (c : Int) > 2 ^ 48) := by
          have h9 : (c : Int) * (i.bytes : Int) ≤ ((70368744177664 : Nat) : Int) := by rw [← Int.natCast_mul]; exact Int.ofNat_le.2 hr1
          rw [Int.mul_comm] at h9
          omega
        have hn1 : ¬ ((c : Int) < 0) := by omega
        have hn2 : ¬ ((l : Int) < 0) := by omega
        have hn3 : ¬ ((l : Int) > (c : Int)) := by omega
        have haskR : ∀ (b : Nat) (w : World), (askRoom b).run P w = .ok () w := fun b w => by unfold askRoom mark; split <;> rfl
        unfold Instr.makeSlice
        simp only [asInt, asIntOf, Sem.run_bind, run_underlying E.sl, Result.andThen_ok, Sem.run_pure, run_typeInfo' E.info, hwl, hwc]
        simp only [Int.ofNat_eq_natCast, hn1, hn2, hn3, hi1, decide_false, Bool.or_false, Bool.or_self, Bool.false_eq_true, if_false, haskR, Sem.run_bind, Result.andThen_ok, Int.toNat_natCast, run_sizeOf E.info, Sem.run_pure]
        by_cases h0 : c * i.size = 0
        · have hc := zc_rep x c i.size c3 #[] (.inl h0)
          rw [if_pos h0]
          simp only [Sem.run_pure, Result.andThen_ok, Sem.run_bind, hc, run_newRow]
        · have hc := zc_rep x c i.size c3 x.cells (.inr rfl)
          rw [if_neg h0]
          simp only [Sem.run_pure, Result.andThen_ok, Sem.run_bind, run_zero E.info E.zero, hc, run_newRow]
      refine Nx_val hrun ⟨_, H.new_ext (sz w, 0), H.alloc _ _ 0 ?_, .sl _ _ _ _ _ 0 (ρput_eq _ _ _)⟩
      rw [repL_eq]
      exact .cells _ _ _ _ (rep_rvs c1 c) (fun e he => by rw [List.eq_of_mem_replicate he]; exact E.len) (rep_all c2 c) (0, 0) (.inl ⟨rfl, rfl⟩)
    · cases e
  · cases e
end
end Go.Proofs.YthdaccndnfgeeaaGreatDoor.CM
