/- Operations that meet no memory: what the evaluator does is what the model does. No program in sight. -/
import Derived.Test.YthdaccndnfgeeaaGreatDoorEvX
namespace Go.Proofs.YthdaccndnfgeeaaGreatDoor.CM
open Go
section
variable {P : Program} {ρ : Vl}
theorem fa_sound {T : TypeId} {b : Bp} {o f k : Nat} {x : Value} (hk : fi P T f = some k) (hx : RV ρ (.ptr b o) x) : Pu P (fa T x f) (RV ρ (.ptr b (Nat.add o k))) := by
  cases hx with
  | ptr _ _ r g hρ => rw [Pu_fa, hk, FaK_some]; exact .ptr _ _ _ _ hρ
theorem ixa_ptr {T : TypeId} {b : Bp} {o n z j : Nat} {k : IntKind} {x : Value} (hT : ixi P T = some (some n, z)) (hj : Nat.blt j n = true) (hx : RV ρ (.ptr b o) x) :
    Pu P (ixa T x (.int k (.ofNat j))) (RV ρ (.ptr b (Nat.add o (Nat.mul j z)))) := by
  have hj : j < n := Nat.le_of_ble_eq_true hj
  cases hx with
  | ptr _ _ r g hρ =>
    rw [Pu_ixa, hT, IxK_array]
    simp only [IfElse, Int.ofNat_eq_natCast, Int.toNat_natCast]
    rw [if_pos (by omega)]
    exact .ptr _ _ _ _ hρ
theorem ixa_sl {T : TypeId} {b : Bp} {o n c z j : Nat} {k : IntKind} {x : Value} (hT : ixi P T = some (none, z)) (hj : Nat.blt j n = true) (hx : RV ρ (.sl b o n c) x) :
    Pu P (ixa T x (.int k (.ofNat j))) (RV ρ (.ptr b (Nat.add o (Nat.mul j z)))) := by
  have hj : j < n := Nat.le_of_ble_eq_true hj
  cases hx with
  | sl _ _ _ _ r g hρ =>
    rw [Pu_ixa, hT, IxK_slice]
    simp only [IfElse, Int.ofNat_eq_natCast, Int.toNat_natCast]
    rw [if_pos (by omega)]
    exact .ptr _ _ _ _ hρ
theorem ixa_sg {T : TypeId} {b : Bp} {o n c z j : Nat} {k : IntKind} {x : Value} (hT : ixi P T = some (none, z)) (hj : Nat.blt j n = true) (hx : RV ρ (.sg b o n c) x) :
    Pu P (ixa T x (.int k (.ofNat j))) (RV ρ (.ptr b (Nat.add o (Nat.mul j z)))) := by
  have hj : j < n := Nat.le_of_ble_eq_true hj
  cases hx with
  | sg _ _ _ _ r g o' hρ ho hk =>
    have : o' = o := ho.resolve_right (by omega)
    subst this
    rw [Pu_ixa, hT, IxK_slice]
    simp only [IfElse, Int.ofNat_eq_natCast, Int.toNat_natCast]
    rw [if_pos (by omega)]
    exact .ptr _ _ _ _ hρ
theorem rv_rp_drop {r o : Nat} {l : List V} {x : Value} (hx : RV ρ (.rp r o l) x) (k : Nat) : RV ρ (.rp r (o + k) (l.drop k)) (ptr r (o + k)) := by
  cases hx with
  | rp _ _ _ xs hl hs hW =>
    refine .rp _ _ _ (xs.drop k) (hl.drop k) (all_drop hs k) ?_
    rcases hW with rfl | ⟨c0, T, fr, h1, h2⟩
    · left; simp
    · right
      refine ⟨c0, T, fr, h1, ?_⟩
      conv => rhs; rw [← h2]
      rw [List.drop_take, List.drop_drop, List.length_drop]
theorem rv_ro_at {r o c z j : Nat} {es : List V} {e : V} {x : Value} (hx : RV ρ (.ro r o c es z) x) (he : es[j]? = some e) : RV ρ (.rp r (o + j * z) (celV e)) (ptr r (o + j * z)) := by
  cases hx with
  | ro _ _ _ _ _ xs hl hz hs hc hW =>
    have h1 := cats_at hz he
    have hz' := hz e (List.mem_of_getElem? he)
    have hd := hl.drop (j * z)
    rw [h1] at hd
    obtain ⟨a, b, hab, ha, hb⟩ := hd.split
    have hal : a.length = z := by rw [← ha.len, hz']
    have hax : (xs.drop (j * z)).take z = a := by rw [hab, ← hal]; simp
    refine .rp _ _ _ a ha ?_ ?_
    · rw [← hax]; exact all_take (all_drop hs _) _
    · rcases hW with rfl | ⟨c0, T, fr, h3, h4⟩
      · left; rw [← hax]; simp
      · right
        refine ⟨c0, T, fr, h3, ?_⟩
        rw [hal, ← hax, ← h4]
        rw [List.drop_take, List.drop_drop, List.take_take]
        congr 1
        have : (xs.drop (j * z)).length = a.length + b.length := by rw [hab, List.length_append]
        rw [List.length_drop] at this
        omega
theorem fa_rp {T : TypeId} {r o f k : Nat} {l : List V} {x : Value} (hk : fi P T f = some k) (hx : RV ρ (.rp r o l) x) : Pu P (fa T x f) (RV ρ (.rp r (Nat.add o k) (dropN k l))) := by
  have hd := rv_rp_drop hx k
  cases hx with
  | rp _ _ _ xs hl hs hW => rw [Pu_fa, hk, FaK_some, dropN_eq]; exact hd
theorem ixa_rp {T : TypeId} {r o n z j : Nat} {l : List V} {k : IntKind} {x : Value} (hT : ixi P T = some (some n, z)) (hj : Nat.blt j n = true) (hx : RV ρ (.rp r o l) x) :
    Pu P (ixa T x (.int k (.ofNat j))) (RV ρ (.rp r (Nat.add o (Nat.mul j z)) (dropN (Nat.mul j z) l))) := by
  have hd := rv_rp_drop hx (j * z)
  have hj := Nat.le_of_ble_eq_true hj
  cases hx with
  | rp _ _ _ xs hl hs hW =>
    rw [Pu_ixa, hT, IxK_array, dropN_eq]
    unfold IfElse
    rw [if_pos ⟨Int.natCast_nonneg j, by simp; omega⟩]
    exact hd
theorem ixa_ro {T : TypeId} {r o c z j : Nat} {es : List V} {e : V} {k : IntKind} {x : Value} (hT : ixi P T = some (none, z)) (he : nth? es j = some e) (hx : RV ρ (.ro r o c es z) x) :
    Pu P (ixa T x (.int k (.ofNat j))) (RV ρ (.rp r (Nat.add o (Nat.mul j z)) (celV e))) := by
  rw [nth?_eq] at he
  have hd := rv_ro_at hx he
  have hlt := (List.getElem?_eq_some_iff.1 he).1
  cases hx with
  | ro _ _ _ _ _ xs hl hz hs hc hW =>
    rw [Pu_ixa, hT, IxK_slice]
    unfold IfElse
    rw [if_pos ⟨Int.natCast_nonneg j, by simp; omega⟩]
    exact hd
theorem nc_rp {r o : Nat} {l : List V} {x : Value} (hx : RV ρ (.rp r o l) x) : Pu P (nc x) (RV ρ (.rp r o l)) := by
  have h0 := hx
  cases hx with
  | rp _ _ _ xs hl hs hW => rw [Pu_nc_ptr]; exact h0
theorem fld_agg {T : TypeId} {f o n : Nat} {l : List V} {x : Value} (hT : fsh P T f = some (o, true, n)) (hx : RV ρ (.agg l) x) : Pu P (fld T x f) (RV ρ (.agg (takeN n (dropN o l)))) := by
  cases hx with
  | agg _ cs h hs => rw [Pu_fld, hT, PartK_agg, takeN_eq, dropN_eq]; exact .agg _ _ ((h.drop o).take n) (all_take (all_drop hs _) _)
theorem fld_one {T : TypeId} {f o n : Nat} {l : List V} {v : V} {x : Value} (hT : fsh P T f = some (o, false, n)) (hx : RV ρ (.agg l) x) (hv : nth? l o = some v) : Pu P (fld T x f) (RV ρ v) := by
  rw [nth?_eq] at hv
  cases hx with
  | agg _ cs h hs =>
    obtain ⟨y, h1, h2⟩ := h.get hv
    rw [Pu_fld, hT, PartK_scalar, h1]; exact h2
theorem ext_sound {l : List V} {i : Nat} {v : V} {x : Value} (hx : RV ρ (.tup l) x) (hv : nth? l i = some v) : Pu P (ext x i) (RV ρ v) := by
  rw [nth?_eq] at hv
  cases hx with
  | tup _ cs h =>
    obtain ⟨y, h1, h2⟩ := h.get hv
    rw [Pu_ext, h1, OpK_some]; exact h2
theorem nc_ptr {b : Bp} {o : Nat} {x : Value} (hx : RV ρ (.ptr b o) x) : Pu P (nc x) (RV ρ (.ptr b o)) := by
  cases hx with
  | ptr _ _ r g hρ => rw [Pu_nc_ptr]; exact .ptr _ _ _ _ hρ
theorem nc_fn {f : FuncId} {l : List V} {x : Value} (hx : RV ρ (.fn f l) x) : Pu P (nc x) (RV ρ (.fn f l)) := by
  cases hx with
  | fn _ _ cs h => rw [Pu_nc_func]; exact .fn _ _ _ h
theorem un_not {b : Bool} {x : Value} (hx : RV ρ (.bool b) x) : Pu P (un .not x) (RV ρ (.bool (Bool.not b))) := by
  cases hx; rw [Pu_not]; exact .bool _
theorem un_neg {k : IntKind} {n : Int} {x : Value} (hx : RV ρ (.int k n) x) : Pu P (un .neg x) (RV ρ (.int k (subI k (.ofNat 0) n))) := by
  cases hx; rw [Pu_neg, subI_eq]; exact .int _ _
theorem pk_t {v : V} {x y z : Value} (hx : RV ρ (.bool true) x) (hy : RV ρ v y) : Pu P (pk x y z) (RV ρ v) := by
  cases hx; rw [Pu_pk]; exact hy
theorem pk_f {v : V} {x y z : Value} (hx : RV ρ (.bool false) x) (hy : RV ρ v z) : Pu P (pk x y z) (RV ρ v) := by
  cases hx; rw [Pu_pk]; exact hy
theorem mkf_sound {f : FuncId} {l : List V} {xs : List Value} (h : RVs ρ l xs) : Pu P (mkf (.func f) #[] xs.toArray) (RV ρ (.fn f l)) := by
  rw [Pu_mkf]; exact .fn _ _ _ h
theorem cvtI_eq (k : IntKind) (n : Int) : cvtI k n = k.wrap n := by
  unfold cvtI; split
  · rw [natW_eq]
  · rfl
theorem isInt_un {T : TypeId} {i : IntKind} (h : isInt P T = some i) : P.underlying T = some (.int i) := by
  unfold isInt at h
  split at h
  · rename_i k hk; cases h; exact hk
  · cases h
theorem cvt_int {s d : TypeId} {k j : IntKind} {n : Int} {x : Value} {w : World} (hs : isInt P s = some j) (hd : isInt P d = some k) {k' : IntKind} (hx : RV ρ (.int k' n) x) {K : Value → World → Prop} (hK : ∀ z, RV ρ (.int k (cvtI k n)) z → K z w) :
    Nx P (cvt s d x) w K := by
  cases hx
  rw [Nx_cvt ⟨j, isInt_un hs⟩ (isInt_un hd)]
  exact hK _ (by rw [cvtI_eq]; exact .int _ _)
end
end Go.Proofs.YthdaccndnfgeeaaGreatDoor.CM
