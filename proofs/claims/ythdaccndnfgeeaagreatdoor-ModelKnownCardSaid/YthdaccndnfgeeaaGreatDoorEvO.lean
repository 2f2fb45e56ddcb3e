/- What the evaluator reckons is what the model reckons: operations without memory. No program in sight. -/
import Derived.Test.YthdaccndnfgeeaaGreatDoorEvR
import Derived.Laws.Strings
namespace Go.Proofs.YthdaccndnfgeeaaGreatDoor.CM
open Go
section
variable {P : Program} {ρ : Vl}
theorem kbeq_eq {a b : IntKind} (h : kbeq a b = true) : a = b := by cases a <;> cases b <;> first | rfl | cases h
theorem wrapU {k : IntKind} (hk : k.signed = false) (n : Int) : k.wrap n = n % (2 ^ k.bits : Int) := by simp [IntKind.wrap, hk]
theorem bits_nat' {k : IntKind} (hk : k.signed = false) (m n : Nat) (f : Nat → Nat → Nat) (r : BitVec k.bits) (hr : r.toNat = f (m % 2 ^ k.bits) (n % 2 ^ k.bits))
    (hm : ∀ a b, f (a % 2 ^ k.bits) (b % 2 ^ k.bits) = f a b % 2 ^ k.bits) : k.wrap (r.toNat : Int) = Int.ofNat (f m n % 2 ^ k.bits) := by
  rw [wrapU hk, hr, hm]
  have : (((f m n % 2 ^ k.bits : Nat) : Int) % (2 ^ k.bits : Int)) = ((f m n % 2 ^ k.bits % 2 ^ k.bits : Nat) : Int) := by norm_cast
  rw [this, Nat.mod_mod]; rfl
theorem lgW_eq {op : BinOp} {k : IntKind} (hk : k.signed = false) {W : Nat} (hW : W = 2 ^ k.bits) (m n : Nat) : lgW op m n W (bitsI op k (Int.ofNat m) (Int.ofNat n)) = bitsI op k (Int.ofNat m) (Int.ofNat n) := by
  subst hW
  unfold lgW
  split
  · unfold bitsI; simp only [Int.ofNat_eq_natCast, BitVec.ofInt_natCast]
    exact (bits_nat' hk m n (fun x y => x &&& y) _ (by simp) (fun a b => (Nat.and_mod_two_pow).symm)).symm
  · unfold bitsI; simp only [Int.ofNat_eq_natCast, BitVec.ofInt_natCast]
    exact (bits_nat' hk m n (fun x y => x ||| y) _ (by simp) (fun a b => (Nat.or_mod_two_pow).symm)).symm
  · unfold bitsI; simp only [Int.ofNat_eq_natCast, BitVec.ofInt_natCast]
    exact (bits_nat' hk m n (fun x y => x ^^^ y) _ (by simp) (fun a b => (Nat.xor_mod_two_pow).symm)).symm
  · rfl
theorem lgI_eq (op : BinOp) (k : IntKind) (a b : Int) : lgI op k a b = bitsI op k a b := by
  unfold lgI
  split
  · split
    · exact lgW_eq rfl (by decide) _ _
    · exact lgW_eq rfl (by decide) _ _
    · exact lgW_eq rfl (by decide) _ _
    · rfl
  · rfl
theorem shrI_eq (k : IntKind) (a b : Int) : shrI k a b = shI false k a b := by
  unfold shrI
  split
  · rename_i m n
    split
    · rename_i h
      have h := Nat.le_of_ble_eq_true h
      unfold shI
      simp only [Bool.false_eq_true, if_false, Int.ofNat_eq_natCast, Int.toNat_natCast, Nat.min_eq_left h]
      rw [Int.fdiv_eq_ediv_of_nonneg _ (by exact_mod_cast Nat.zero_le _)]
      have : Nat.shiftRight m n = m / 2 ^ n := Nat.shiftRight_eq_div_pow m n
      rw [this]; norm_cast
    · rfl
  · rfl
theorem shlI_eq (k : IntKind) (a b : Int) : shlI k a b = shI true k a b := by
  unfold shlI
  split
  · rename_i m n
    split
    · rename_i h
      have h := Nat.le_of_ble_eq_true h
      unfold shI
      rw [natW_eq]
      simp only [if_true, Int.ofNat_eq_natCast, Int.toNat_natCast, Nat.min_eq_left h]
      congr 1
    · rfl
  · rfl
theorem boolEq_eq (a b : Bool) : boolEq a b = (a == b) := by cases a <;> cases b <;> rfl
theorem strEq_eq : ∀ (a b : List Nat), strEq a b = (a == b)
  | [], [] => rfl
  | [], _ :: _ => rfl
  | _ :: _, [] => rfl
  | x :: a, y :: b => by
    show (match Nat.beq x y with | true => strEq a b | false => false) = _
    rw [strEq_eq a b]
    cases h : Nat.beq x y with
    | true => have := Nat.eq_of_beq_eq_true h; subst this; simp
    | false =>
      have : x ≠ y := fun e => by subst e; rw [Nat.beq_refl] at h; cases h
      simp [this]
theorem bytesOf_toList (s : List Nat) : (bytesOf s).toList = s.map UInt8.ofNat := by rw [ByteArray.toList_eq]; simp [bytesOf]
theorem bytes_inj : ∀ {a b : List Nat}, (∀ x ∈ a, x < 256) → (∀ x ∈ b, x < 256) → a.map UInt8.ofNat = b.map UInt8.ofNat → a = b
  | [], [], _, _, _ => rfl
  | [], _ :: _, _, _, h => by simp at h
  | _ :: _, [], _, _, h => by simp at h
  | x :: a, y :: b, ha, hb, h => by
    simp only [List.map_cons, List.cons.injEq] at h
    have hx := ha x (List.mem_cons_self ..)
    have hy := hb y (List.mem_cons_self ..)
    have e : x = y := by
      have := congrArg UInt8.toNat h.1
      simpa [Nat.mod_eq_of_lt hx, Nat.mod_eq_of_lt hy] using this
    rw [e, bytes_inj (fun z hz => ha z (List.mem_cons_of_mem _ hz)) (fun z hz => hb z (List.mem_cons_of_mem _ hz)) h.2]
theorem strEq_bytes {a b : List Nat} (ha : ∀ x ∈ a, x < 256) (hb : ∀ x ∈ b, x < 256) : ((bytesOf a).toList == (bytesOf b).toList) = strEq a b := by
  rw [strEq_eq, bytesOf_toList, bytesOf_toList, Bool.eq_iff_iff, beq_iff_eq, beq_iff_eq]
  exact ⟨bytes_inj ha hb, fun h => by rw [h]⟩

/-! Numbers. -/
theorem intB_sound (T : TypeId) (cx cy : Bool) {op : BinOp} {k : IntKind} {a b : Int} {r : V} (h : intB op k a b = some r) : Pu P (bin op T cx cy (.int k a) (.int k b)) (RV ρ r) := by
  have nz : ∀ {b : Int}, eqI b (.ofNat 0) = false → b ≠ 0 := fun {b} h e => by subst e; rw [eqI_eq] at h; cases h
  cases op <;> simp only [intB] at h
  case add => cases h; rw [Pu_add, addI_eq]; exact .int _ _
  case sub => cases h; rw [Pu_sub, subI_eq]; exact .int _ _
  case mul => cases h; rw [Pu_mul, mulI_eq]; exact .int _ _
  case quo =>
    split at h
    · cases h
    · rename_i hb; cases h; rw [Pu_quo, quoI_eq]; exact ⟨nz hb, .int _ _⟩
  case rem =>
    split at h
    · cases h
    · rename_i hb; cases h; rw [Pu_rem, remI_eq]; exact ⟨nz hb, .int _ _⟩
  case and => cases h; rw [Pu_and, lgI_eq]; exact .int _ _
  case or => cases h; rw [Pu_or, lgI_eq]; exact .int _ _
  case xor => cases h; rw [Pu_xor, lgI_eq]; exact .int _ _
  case andNot => cases h; rw [Pu_andNot, lgI_eq]; exact .int _ _
  case lss => cases h; rw [Pu_lss, ltI_eq]; exact .bool _
  case leq => cases h; rw [Pu_leq, leI_eq]; exact .bool _
  case gtr => cases h; rw [Pu_gtr, ltI_eq]; exact .bool _
  case geq => cases h; rw [Pu_geq, leI_eq]; exact .bool _
  all_goals cases h
end
end Go.Proofs.YthdaccndnfgeeaaGreatDoor.CM
