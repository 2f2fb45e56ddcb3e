/- Reckoning with two values. No program in sight. -/
import Derived.Test.YthdaccndnfgeeaaGreatDoorEvF
namespace Go.Proofs.YthdaccndnfgeeaaGreatDoor.CM
open Go
section
variable {P : Program} {ρ : Vl} {B : Nat} {w0 w : World} {h h' : Hp} {n : Nat} {rg : Rg} {a : Act} {call : Cl} {o : Oper} {v : V}
theorem rv_int {k : IntKind} {i : Int} {x : Value} (h : RV ρ (.int k i) x) : x = .int k i := by cases h; rfl
theorem nz {b : Int} (h : eqI b (.ofNat 0) = false) : b ≠ 0 := fun e => by subst e; rw [eqI_eq] at h; cases h
theorem bI_go {op : BinOp} {T : TypeId} {cx cy : Bool} {f : IntKind → Int → Int → Option V} {p q r : V} {x y : Value} (hx : RV ρ p x) (hy : RV ρ q y) (e : bI1 p f q = some r)
    (hf : ∀ k i j, f k i j = some r → Pu P (bin op T cx cy (.int k i) (.int k j)) (RV ρ r)) : Pu P (bin op T cx cy x y) (RV ρ r) := by
  obtain ⟨k, i, j, h1, h2, h3⟩ := bI1_some e
  subst h1 h2
  rw [rv_int hx, rv_int hy]
  exact hf k i j h3
theorem pu_addS (T : TypeId) (cx cy : Bool) (s t : ByteArray) (K : Value → Prop) (hs : ((s.size + t.size : Nat) : Int) ≤ IntKind.i64.max) : Pu P (bin .add T cx cy (.string s) (.string t)) K = K (.string (s ++ t)) :=
  Pu_of (pev_val (by
    have : ¬ ((s.size + t.size : Nat) : Int) > IntKind.i64.max := by simpa using hs
    simp only [eqGuard, binOp, Op.stringOp, if_neg this]; rfl))
theorem bytesOf_app (a b : List Nat) : bytesOf a ++ bytesOf b = bytesOf (a ++ b) := by
  unfold bytesOf
  apply ByteArray.ext
  rw [ByteArray.data_append]
  simp
theorem binV_int {op : BinOp} (hne : op ≠ .eql ∧ op ≠ .neq) {T : TypeId} {cx cy : Bool} {p q r : V} {x y : Value} (hx : RV ρ p x) (hy : RV ρ q y) (e : binV P op T p q = some r) : Pu P (bin op T cx cy x y) (RV ρ r) := by
  cases op
  case eql => exact absurd rfl hne.1
  case neq => exact absurd rfl hne.2
  case add =>
    have e2 : bAdd p q = some r := e
    cases p with
    | int k i =>
      obtain ⟨j, rfl, e3⟩ := bI2_some (y := q) (f := fun k a b => oI k (addI k a b)) e2
      rw [rv_int hx, rv_int hy, Pu_add, ← addI_eq]
      cases e3; exact .int _ _
    | str s =>
      have e3 : addStr (.str s) q = some r := e2
      cases q with
      | str t =>
        cases hx with
        | str _ hs => cases hy with
          | str _ ht =>
            simp only [addStr] at e3
            split at e3
            · rename_i hle
              have hle := Nat.le_of_ble_eq_true hle
              rw [lenL_eq, lenL_eq] at hle
              have hle : s.length + t.length ≤ 1000000 := hle
              cases e3
              rw [pu_addS, bytesOf_app, appL_eq]
              · exact .str _ (fun z hz => by rcases List.mem_append.1 hz with hz | hz; exact hs z hz; exact ht z hz)
              · have e1 : ∀ l : List Nat, (bytesOf l).size = l.length := fun l => by simp [bytesOf, ByteArray.size]
                rw [e1, e1]
                have : IntKind.i64.max = 9223372036854775807 := by decide
                omega
            · cases e3
      | _ => cases e3
    | _ => cases e2
  case sub => exact bI_go hx hy e fun k i j h => by rw [Pu_sub, ← subI_eq]; cases h; exact .int _ _
  case mul => exact bI_go hx hy e fun k i j h => by rw [Pu_mul, ← mulI_eq]; cases h; exact .int _ _
  case quo =>
    refine bI_go hx hy e fun k i j h => ?_
    have h : Bool.rec (oI k (quoI k i j)) none (eqI j (.ofNat 0)) = some r := h
    cases hb : eqI j (.ofNat 0) with
    | true => rw [hb] at h; cases h
    | false => rw [hb] at h; rw [Pu_quo, ← quoI_eq]; cases h; exact ⟨nz hb, .int _ _⟩
  case rem =>
    refine bI_go hx hy e fun k i j h => ?_
    have h : Bool.rec (oI k (remI i j)) none (eqI j (.ofNat 0)) = some r := h
    cases hb : eqI j (.ofNat 0) with
    | true => rw [hb] at h; cases h
    | false => rw [hb] at h; rw [Pu_rem, ← remI_eq]; cases h; exact ⟨nz hb, .int _ _⟩
  case and => exact bI_go hx hy e fun k i j h => by rw [Pu_and, ← lgI_eq]; cases h; exact .int _ _
  case or => exact bI_go hx hy e fun k i j h => by rw [Pu_or, ← lgI_eq]; cases h; exact .int _ _
  case xor => exact bI_go hx hy e fun k i j h => by rw [Pu_xor, ← lgI_eq]; cases h; exact .int _ _
  case andNot => exact bI_go hx hy e fun k i j h => by rw [Pu_andNot, ← lgI_eq]; cases h; exact .int _ _
  case lss => exact bI_go hx hy e fun k i j h => by rw [Pu_lss, ← ltI_eq]; cases h; exact .bool _
  case leq => exact bI_go hx hy e fun k i j h => by rw [Pu_leq, ← leI_eq]; cases h; exact .bool _
  case gtr => exact bI_go hx hy e fun k i j h => by rw [Pu_gtr, ← ltI_eq]; cases h; exact .bool _
  case geq => exact bI_go hx hy e fun k i j h => by rw [Pu_geq, ← leI_eq]; cases h; exact .bool _
  case shl =>
    obtain ⟨k, i, k', j, rfl, rfl, hj, e⟩ := bS_some (x := p) (y := q) (f := fun k a b => oI k (shlI k a b)) e
    rw [rv_int hx, rv_int hy, Pu_shl, ← shlI_eq]; cases e; exact ⟨hj, .int _ _⟩
  case shr =>
    obtain ⟨k, i, k', j, rfl, rfl, hj, e⟩ := bS_some (x := p) (y := q) (f := fun k a b => oI k (shrI k a b)) e
    rw [rv_int hx, rv_int hy, Pu_shr, ← shrI_eq]; cases e; exact ⟨hj, .int _ _⟩
end
end Go.Proofs.YthdaccndnfgeeaaGreatDoor.CM
