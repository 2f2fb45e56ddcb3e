/- What the evaluator's values and memory stand for. No program in sight. -/
import Derived.Test.YthdaccndnfgeeaaGreatDoorEv
import Derived.Laws.Bits64
namespace Go.Proofs.YthdaccndnfgeeaaGreatDoor.CM
open Go

/-! ### Names -/
noncomputable def Bp.num (p : Bp) : Nat := Bp.rec 1 (fun _ n => 2 * n) (fun _ n => 2 * n + 1) p
theorem Bp.num_pos (p : Bp) : 0 < p.num := by
  induction p with
  | h => exact Nat.one_pos
  | o p ih => show 0 < 2 * p.num; omega
  | i p ih => show 0 < 2 * p.num + 1; omega
theorem Bp.num_succ (p : Bp) : p.succ.num = p.num + 1 := by
  induction p with
  | h => rfl
  | o p ih => rfl
  | i p ih => show 2 * p.succ.num = 2 * p.num + 1 + 1; omega
theorem Bp.num_inj : ∀ {p q : Bp}, p.num = q.num → p = q
  | .h, .h, _ => rfl
  | .h, .o q, e => by have := q.num_pos; have e : 1 = 2 * q.num := e; omega
  | .h, .i q, e => by have := q.num_pos; have e : 1 = 2 * q.num + 1 := e; omega
  | .o p, .h, e => by have := p.num_pos; have e : 2 * p.num = 1 := e; omega
  | .i p, .h, e => by have := p.num_pos; have e : 2 * p.num + 1 = 1 := e; omega
  | .o p, .o q, e => by have e : 2 * p.num = 2 * q.num := e; rw [Bp.num_inj (p := p) (q := q) (by omega)]
  | .i p, .i q, e => by have e : 2 * p.num + 1 = 2 * q.num + 1 := e; rw [Bp.num_inj (p := p) (q := q) (by omega)]
  | .o p, .i q, e => by have e : 2 * p.num = 2 * q.num + 1 := e; omega
  | .i p, .o q, e => by have e : 2 * p.num + 1 = 2 * q.num := e; omega
theorem bpF_num : ∀ (f n : Nat), 0 < n → n < 2 ^ f → (bpF f n).num = n
  | 0, n, h, h' => by simp at h'; omega
  | f + 1, n, h, h' => by
    show (Bool.rec (motive := fun _ => Bp) (Bool.rec (motive := fun _ => Bp) (.i (bpF f (Nat.div n 2))) (.o (bpF f (Nat.div n 2))) (Nat.beq (Nat.mod n 2) 0)) .h (Nat.ble n 1) : Bp).num = n
    have hd : Nat.div n 2 = n / 2 := rfl
    have hm : Nat.mod n 2 = n % 2 := rfl
    cases h1 : Nat.ble n 1 with
    | true =>
      have := Nat.le_of_ble_eq_true h1
      show 1 = n; omega
    | false =>
      have h2 : ¬ n ≤ 1 := fun h => by rw [Nat.ble_eq_true_of_le h] at h1; cases h1
      have ih := bpF_num f (n / 2) (by omega) (by rw [Nat.pow_succ] at h'; omega)
      cases h3 : Nat.beq (Nat.mod n 2) 0 with
      | true =>
        have h3 := Nat.eq_of_beq_eq_true h3
        show 2 * (bpF f (n / 2)).num = n; rw [hm] at h3; omega
      | false =>
        have h3 : n % 2 ≠ 0 := fun h => by rw [hm, h] at h3; cases h3
        show 2 * (bpF f (n / 2)).num + 1 = n; omega
theorem bp_inj {m n : Nat} (h : bp m = bp n) : m = n := by
  have h1 := bpF_num (Nat.succ m) (Nat.succ m) (Nat.succ_pos m) Nat.lt_two_pow_self
  have h2 := bpF_num (Nat.succ n) (Nat.succ n) (Nat.succ_pos n) Nat.lt_two_pow_self
  have h3 : bpF (Nat.succ m) (Nat.succ m) = bpF (Nat.succ n) (Nat.succ n) := h
  rw [h3] at h1; omega

/-! ### Tables -/
section
variable {α : Type}
theorem Tr.get_e (p : Bp) : (Tr.e : Tr α).get p = none := by cases p <;> rfl
theorem Tr.get_put : ∀ (p q : Bp) (t : Tr α) (a : α), (t.put p a).get q = if p = q then some a else t.get q
  | .h, .h, t, a => by cases t <;> simp [Tr.put, Tr.get]
  | .h, .o q, t, a => by cases t with
    | e => rw [if_neg (by simp)]; exact (Tr.get_e q).trans (Tr.get_e _).symm
    | n v l r => rw [if_neg (by simp)]; rfl
  | .h, .i q, t, a => by cases t with
    | e => rw [if_neg (by simp)]; exact (Tr.get_e q).trans (Tr.get_e _).symm
    | n v l r => rw [if_neg (by simp)]; rfl
  | .o p, .h, t, a => by cases t <;> (rw [if_neg (by simp)]; rfl)
  | .i p, .h, t, a => by cases t <;> (rw [if_neg (by simp)]; rfl)
  | .o p, .o q, t, a => by
    cases t with
    | e => show ((Tr.e : Tr α).put p a).get q = _; rw [Tr.get_put p q]; simp [Tr.get_e]
    | n v l r => show (l.put p a).get q = _; rw [Tr.get_put p q]; simp only [Bp.o.injEq]; rfl
  | .i p, .i q, t, a => by
    cases t with
    | e => show ((Tr.e : Tr α).put p a).get q = _; rw [Tr.get_put p q]; simp [Tr.get_e]
    | n v l r => show (r.put p a).get q = _; rw [Tr.get_put p q]; simp only [Bp.i.injEq]; rfl
  | .o p, .i q, t, a => by cases t with
    | e => rw [if_neg (by simp)]; exact (Tr.get_e q).trans (Tr.get_e _).symm
    | n v l r => rw [if_neg (by simp)]; rfl
  | .i p, .o q, t, a => by cases t with
    | e => rw [if_neg (by simp)]; exact (Tr.get_e q).trans (Tr.get_e _).symm
    | n v l r => rw [if_neg (by simp)]; rfl
end

/-! ### Lists -/
section
variable {α : Type}
theorem nth?_eq : ∀ (l : List α) (i : Nat), nth? l i = l[i]?
  | [], i => by simp [nth?]
  | a :: l, 0 => rfl
  | a :: l, i + 1 => by show nth? l i = _; rw [nth?_eq l i]; rfl
theorem takeN_eq : ∀ (n : Nat) (l : List α), takeN n l = l.take n
  | 0, l => rfl
  | n + 1, [] => rfl
  | n + 1, a :: l => by show a :: takeN n l = _; rw [takeN_eq n l]; rfl
theorem dropN_eq : ∀ (n : Nat) (l : List α), dropN n l = l.drop n
  | 0, l => rfl
  | n + 1, [] => rfl
  | n + 1, a :: l => by show dropN n l = _; rw [dropN_eq n l]; rfl
theorem appL_eq : ∀ (l m : List α), appL l m = l ++ m
  | [], m => rfl
  | a :: l, m => by show a :: appL l m = _; rw [appL_eq l m]; rfl
theorem frc_eq {β : Type} (n : Nat) (k : Nat → β) : frc n k = k n := by cases n <;> rfl
theorem lenL_eq (l : List α) : lenL l = l.length := by
  have key : ∀ (l : List α) (n : Nat), List.rec (motive := fun _ => Nat → Nat) (fun n => n) (fun _ _ ih n => frc (Nat.succ n) ih) l n = l.length + n := by
    intro l
    induction l with
    | nil => intro n; simp
    | cons a l ih => intro n; show frc (Nat.succ n) (List.rec (motive := fun _ => Nat → Nat) (fun n => n) (fun _ _ ih n => frc (Nat.succ n) ih) l) = _; rw [frc_eq, ih]; simp; omega
  exact key l 0
theorem setL_eq : ∀ (l : List α) (i : Nat) (a : α), setL l i a = l.set i a
  | [], i, a => by simp [setL]
  | x :: l, 0, a => rfl
  | x :: l, i + 1, a => by show x :: setL l i a = _; rw [setL_eq l i a]; rfl
theorem repL_eq : ∀ (n : Nat) (a : α), repL n a = List.replicate n a
  | 0, a => rfl
  | n + 1, a => by show a :: repL n a = _; rw [repL_eq n a]; rfl
end
theorem cats_cons (e : V) (es : List V) : cats (e :: es) = celV e ++ cats es := by show appL (celV e) (cats es) = _; rw [appL_eq]
theorem cats_nil : cats [] = [] := rfl
theorem cats_app (a b : List V) : cats (a ++ b) = cats a ++ cats b := by
  induction a with
  | nil => rfl
  | cons e a ih => rw [List.cons_append, cats_cons, ih, cats_cons, List.append_assoc]
theorem splL_eq (l : List V) (o : Nat) (m : List V) : splL l o m = l.take o ++ m ++ l.drop (o + m.length) := by
  unfold splL; rw [appL_eq, appL_eq, takeN_eq, dropN_eq, lenL_eq, List.append_assoc]; rfl

/-! ### Numbers -/
theorem natW_eq (k : IntKind) (n : Nat) : natW k n = k.wrap (Int.ofNat n) := by
  unfold natW
  split
  · rw [IntKind.wrap_u8]; rfl
  · rw [IntKind.wrap_u32]; rfl
  · rw [IntKind.wrap_u64]; rfl
  · split
    · rename_i h
      have h := Nat.le_of_ble_eq_true h
      rw [IntKind.wrap_i64]
      simp only [Int.ofNat_eq_natCast]; omega
    · rfl
  · rfl
theorem addI_eq (k : IntKind) (a b : Int) : addI k a b = k.wrap (a + b) := by
  unfold addI; split
  · rw [natW_eq]; rfl
  · rfl
theorem subI_eq (k : IntKind) (a b : Int) : subI k a b = k.wrap (a - b) := by
  unfold subI; split
  · rename_i m n
    split
    · rename_i h
      have h := Nat.le_of_ble_eq_true h
      rw [natW_eq]; congr 1
      show ((m - n : Nat) : Int) = (m : Int) - (n : Int); omega
    · rfl
  · rfl
theorem mulI_eq (k : IntKind) (a b : Int) : mulI k a b = k.wrap (a * b) := by
  unfold mulI; split
  · rw [natW_eq]; rfl
  · rfl
theorem quoI_eq (k : IntKind) (a b : Int) : quoI k a b = k.wrap (a.tdiv b) := by
  unfold quoI; split
  · rw [natW_eq]; rfl
  · rfl
theorem remI_eq (a b : Int) : remI a b = a.tmod b := by
  unfold remI; split <;> rfl
theorem ltI_eq (a b : Int) : ltI a b = decide (a < b) := by
  unfold ltI; split
  · rename_i m n; rw [Bool.eq_iff_iff, decide_eq_true_iff]; simp only [Int.ofNat_eq_natCast]; rw [show (Nat.blt m n = true) ↔ (m < n) from ⟨fun h => Nat.le_of_ble_eq_true h, fun h => Nat.ble_eq_true_of_le h⟩]; omega
  · rename_i m n; rw [Bool.eq_iff_iff, decide_eq_true_iff]; rw [show (Nat.blt n m = true) ↔ (n < m) from ⟨fun h => Nat.le_of_ble_eq_true h, fun h => Nat.ble_eq_true_of_le h⟩]; omega
  · rename_i m n; symm; rw [decide_eq_true_iff]; simp only [Int.ofNat_eq_natCast]; omega
  · rename_i m n; symm; rw [decide_eq_false_iff_not]; simp only [Int.ofNat_eq_natCast]; omega
theorem leI_eq (a b : Int) : leI a b = decide (a ≤ b) := by
  unfold leI; rw [ltI_eq, Bool.eq_iff_iff]; simp
theorem eqI_eq (a b : Int) : eqI a b = (a == b) := by
  unfold eqI; split
  · rename_i m n; rw [Bool.eq_iff_iff, beq_iff_eq]; simp only [Int.ofNat_eq_natCast]; rw [show Nat.beq m n = true ↔ m = n from ⟨Nat.eq_of_beq_eq_true, fun h => by subst h; exact Nat.beq_refl m⟩]; omega
  · rename_i m n; rw [Bool.eq_iff_iff, beq_iff_eq]; rw [show Nat.beq m n = true ↔ m = n from ⟨Nat.eq_of_beq_eq_true, fun h => by subst h; exact Nat.beq_refl m⟩]; omega
  · rename_i h1 h2
    symm; rw [beq_eq_false_iff_ne]
    intro h; subst h
    cases a with
    | ofNat m => exact h1 m m rfl rfl
    | negSucc m => exact h2 m m rfl rfl
end Go.Proofs.YthdaccndnfgeeaaGreatDoor.CM
