/- More operations, in forms that simp can reckon with: no program in sight. -/
import Derived.Test.YthdaccndnfgeeaaGreatDoorOps
namespace Go.Proofs.YthdaccndnfgeeaaGreatDoor.CM
open Go

theorem Nx_of_run {P : Program} {s : Sem Next} {w w' : World} {v : Value} {K : Value → World → Prop} (h : s.run P w = .ok (.value v) w') : Nx P s w K = K v w' := by
  rw [eq_iff_iff, Nx_iff]; unfold NxD; rw [h]
theorem Pu_of {P : Program} {s : Sem Next} {K : Value → Prop} {v : Value} (h : pev P s = some (.value v)) : Pu P s K = K v := by
  simp [Pu_iff, h, nval]
theorem Pu_no {P : Program} {s : Sem Next} {K : Value → Prop} (h : pev P s = none) : Pu P s K = False := by
  simp [Pu_iff, h, nval]
theorem pev_val {P : Program} {s : Sem Value} {v : Value} (h : pev P s = some v) : pev P (do pure (Next.value (← s))) = some (.value v) := by
  rw [pev_bind, h]; rfl
theorem pev_val_no {P : Program} {s : Sem Value} (h : pev P s = none) : pev P (do pure (Next.value (← s)) : Sem Next) = none := by
  rw [pev_bind, h]; rfl

theorem pev_map {P : Program} {α β : Type} (f : α → β) (s : Sem α) : pev P (f <$> s) = (pev P s).map f := by
  show pev P (s >>= fun a => pure (f a)) = _
  rw [pev_bind]; cases pev P s <;> rfl
theorem rdev_map {P : Program} {α β : Type} (f : α → β) (s : Sem α) (w : World) : rdev P (f <$> s) w = (rdev P s w).map f := by
  show rdev P (s >>= fun a => pure (f a)) w = _
  rw [rdev_bind]; cases rdev P s w <;> rfl
/-! ### New memory -/
def cells (v : Value) : List Value := v.cells.toList
theorem cells_int (k : IntKind) (n : Int) : cells (.int k n) = [.int k n] := rfl
theorem cells_bool (b : Bool) : cells (.bool b) = [.bool b] := rfl
theorem cells_string (s : ByteArray) : cells (.string s) = [.string s] := rfl
theorem cells_pointer (a : Option Addr) : cells (.pointer a) = [.pointer a] := rfl
theorem cells_ptr (b o : Nat) : cells (ptr b o) = [ptr b o] := rfl
theorem cells_slice (a : Option Addr) (n c : Nat) : cells (.slice a n c) = [.slice a n c] := rfl
theorem cells_map (a : Option Nat) : cells (.map a) = [.map a] := rfl
theorem cells_func (fn : Fn) (a b : Array Value) : cells (.func fn a b) = [.func fn a b] := rfl
theorem cells_nilFunc : cells .nilFunc = [.nilFunc] := rfl
theorem cells_agg (l : List Value) : cells (.agg l.toArray) = l := rfl
theorem Nx_bx {P : Program} (T : TypeId) (v : Value) (w : World) (K : Value → World → Prop) : Nx P (bx T v) w K = K (ptr (sz w) 0) (w.alloc (cl (cells v) T)) := by
  refine Nx_of_run ?_
  simp only [bx, Instr.box, newVar, newRow, newObj, Sem.run_bind, Sem.run, Result.andThen_ok, Sem.run_pure]
  unfold World.alloc ptr sz cl cells; simp
def zc (P : Program) (T : TypeId) : Option (List Value) := ((P.info? T).bind (·.zero)).map cells
def AlK (z : Option (List Value)) (T : TypeId) (w : World) (K : Value → World → Prop) : Prop := ∃ l, z = some l ∧ K (ptr (sz w) 0) (w.alloc (cl l T))
@[congr] theorem AlK_congr {z z' : Option (List Value)} {T : TypeId} {w w' : World} {K : Value → World → Prop} (h : z = z') (h2 : w = w') : AlK z T w K = AlK z' T w' K := by rw [h, h2]
theorem AlK_some (l : List Value) (T : TypeId) (w : World) (K : Value → World → Prop) : AlK (some l) T w K = K (ptr (sz w) 0) (w.alloc (cl l T)) := by simp [AlK]
theorem Nx_al {P : Program} (T : TypeId) (w : World) (K : Value → World → Prop) : Nx P (al T) w K = AlK (zc P T) T w K := by
  unfold AlK zc
  cases h : P.info? T with
  | none =>
    simp only [Option.bind_none, Option.map_none, reduceCtorEq, false_and, exists_false]
    rw [eq_iff_iff, Nx_iff]; unfold NxD al Instr.alloc zeroValue typeInfo
    simp [Sem.run_bind, program, Sem.run, Result.andThen, h, stuck]
  | some i =>
    cases hz : i.zero with
    | none =>
      simp only [Option.bind_some, hz, Option.map_none, reduceCtorEq, false_and, exists_false]
      rw [eq_iff_iff, Nx_iff]; unfold NxD al Instr.alloc zeroValue typeInfo
      simp [Sem.run_bind, program, Sem.run, Result.andThen, h, hz, unsupported]
    | some z =>
      have e : (al T).run P w = .ok (.value (ptr (sz w) 0)) (w.alloc (cl (cells z) T)) := by
        unfold al Instr.alloc zeroValue typeInfo
        simp only [Sem.run_bind, program, Sem.run, Result.andThen_ok, h, hz, newVar, newRow, newObj, Sem.run_pure]
        unfold World.alloc ptr sz cl cells; simp
      rw [Nx_of_run e]
      simp [hz]

/-! ### Addresses and parts -/
def fi (P : Program) (T : TypeId) (f : Nat) : Option Nat :=
  match P.underlying T with
  | some (.struct fs) => (fs[f]?).bind fun d => match (P.info? d.type).map (·.size) with
    | some (_ + 1) => some d.offset
    | _ => none
  | _ => none
def FaK (o : Option Nat) (x : Value) (no : Prop) (K : Value → Prop) : Prop :=
  match o, x with
  | some off, .pointer (some a) => K (.pointer (some (a.add off)))
  | _, _ => no
@[congr] theorem FaK_congr {o o' : Option Nat} {x x' : Value} {no : Prop} {K : Value → Prop} (h : o = o') (h2 : x = x') : FaK o x no K = FaK o' x' no K := by rw [h, h2]
theorem add_ptr (b o n : Nat) : (⟨b, o, none⟩ : Addr).add n = ⟨b, o + n, none⟩ := by
  unfold Addr.add; split
  · rename_i h; simp [h]
  · rfl
theorem FaK_some (off b o : Nat) (no : Prop) (K : Value → Prop) : FaK (some off) (ptr b o) no K = K (ptr b (o + off)) := by simp [FaK, ptr, add_ptr]
theorem Pu_fa {P : Program} (T : TypeId) (x : Value) (f : Nat) (K : Value → Prop) : Pu P (fa T x f) K = FaK (fi P T f) x (Pu P (fa T x f) K) K := by
  unfold FaK
  split
  · rename_i off a h
    refine Pu_of (pev_val ?_)
    unfold fi at h
    split at h
    · rename_i fs hu
      cases hf : fs[f]? with
      | none => simp [hf] at h
      | some d =>
        simp only [hf, Option.bind_some] at h
        split at h
        · rename_i n hn
          simp only [Option.some.injEq] at h; subst h
          simp [Instr.fieldAt, pev_bind, pev_underlying, hu, hf, Instr.sureAddr, pev_pure, fieldPlace, pev_sizeOf, hn]
        · cases h
    · cases h
  · rfl
theorem Pu_nc_ptr {P : Program} (b o : Nat) (K : Value → Prop) : Pu P (nc (ptr b o)) K = K (ptr b o) := Pu_of rfl
theorem Pu_nc_func {P : Program} (f : FuncId) (a c : Array Value) (K : Value → Prop) : Pu P (nc (.func (.func f) a c)) K = K (.func (.func f) a c) := Pu_of rfl
theorem Pu_nc_yield {P : Program} (l : Nat) (a c : Array Value) (K : Value → Prop) : Pu P (nc (.func (.yield l) a c)) K = K (.func (.yield l) a c) := Pu_of rfl

/-- Of an array or a slice: its length, if it is an array; an element's cells. -/
def ixi (P : Program) (T : TypeId) : Option (Option Nat × Nat) :=
  match P.underlying T with
  | some (.array n e) => (P.info? e).map fun i => (some n, i.size)
  | some (.slice e) => (P.info? e).map fun i => (none, i.size)
  | _ => none
def IxK (s : Option (Option Nat × Nat)) (x i : Value) (no : Prop) (K : Value → Prop) : Prop :=
  match s, x, i with
  | some (none, z), .slice (some a) n _, .int _ j => if 0 ≤ j ∧ j < n then K (.pointer (some (a.add (j.toNat * z)))) else no
  | some (some n, z), .pointer (some a), .int _ j => if 0 ≤ j ∧ j < n then K (.pointer (some (a.add (j.toNat * z)))) else no
  | _, _, _ => no
@[congr] theorem IxK_congr {s s' : Option (Option Nat × Nat)} {x x' i i' : Value} {no : Prop} {K : Value → Prop} (h : s = s') (h2 : x = x') (h3 : i = i') : IxK s x i no K = IxK s' x' i' no K := by rw [h, h2, h3]
theorem IxK_slice (z b o n c : Nat) (k : IntKind) (j : Int) (no : Prop) (K : Value → Prop) : IxK (some (none, z)) (.slice (some ⟨b, o, none⟩) n c) (.int k j) no K = IfElse (0 ≤ j ∧ j < n) (K (ptr b (o + j.toNat * z))) no := by
  simp [IxK, ptr, add_ptr, IfElse]
theorem IxK_array (z b o n : Nat) (k : IntKind) (j : Int) (no : Prop) (K : Value → Prop) : IxK (some (some n, z)) (ptr b o) (.int k j) no K = IfElse (0 ≤ j ∧ j < n) (K (ptr b (o + j.toNat * z))) no := by
  simp [IxK, ptr, add_ptr, IfElse]
theorem Pu_ixa {P : Program} (T : TypeId) (x i : Value) (K : Value → Prop) : Pu P (ixa T x i) K = IxK (ixi P T) x i (Pu P (ixa T x i) K) K := by
  unfold IxK
  split
  · rename_i z a n c k j h
    split
    · rename_i hj
      refine Pu_of (pev_val ?_)
      unfold ixi at h
      split at h
      · rename_i m e hu; cases hi : P.info? e <;> simp [hi] at h
      · rename_i e hu
        cases hi : P.info? e with
        | none => simp [hi] at h
        | some inf =>
          simp only [hi, Option.map_some, Option.some.injEq, Prod.mk.injEq, true_and] at h; subst h
          simp [Instr.indexAt, asIntOf, pev_bind, pev_underlying, hu, pev_pure, hj, pev_sizeOf, hi, pev_map]
      · cases h
    · rfl
  · rename_i n z a k j h
    split
    · rename_i hj
      refine Pu_of (pev_val ?_)
      unfold ixi at h
      split at h
      · rename_i m e hu
        cases hi : P.info? e with
        | none => simp [hi] at h
        | some inf =>
          simp only [hi, Option.map_some, Option.some.injEq, Prod.mk.injEq] at h
          obtain ⟨rfl, rfl⟩ := h
          simp [Instr.indexAt, asIntOf, pev_bind, pev_underlying, hu, pev_pure, hj, pev_sizeOf, hi, Instr.sureAddr, pev_map]
      · rename_i e hu; cases hi : P.info? e <;> simp [hi] at h
      · cases h
    · rfl
  · rfl

/-- A field of a struct's value: where, of parts or not, how many cells. -/
def fsh (P : Program) (T : TypeId) (f : Nat) : Option (Nat × Bool × Nat) :=
  match P.underlying T with
  | some (.struct fs) => (fs[f]?).bind fun d => (shp P d.type).map fun s => (d.offset, s.1, s.2)
  | _ => none
def PartK (s : Option (Nat × Bool × Nat)) (x : Value) (no : Prop) (K : Value → Prop) : Prop :=
  match s, x with
  | some (off, true, n), .agg cs => K (.agg (cs.extract off (off + n)))
  | some (off, false, _), .agg cs => (match cs[off]? with | some v => K v | none => no)
  | _, _ => no
@[congr] theorem PartK_congr {s s' : Option (Nat × Bool × Nat)} {x x' : Value} {no : Prop} {K : Value → Prop} (h : s = s') (h2 : x = x') : PartK s x no K = PartK s' x' no K := by rw [h, h2]
theorem PartK_agg (off n : Nat) (l : List Value) (no : Prop) (K : Value → Prop) : PartK (some (off, true, n)) (.agg l.toArray) no K = K (.agg ((l.drop off).take n).toArray) := by
  simp only [PartK]
  congr 2
  apply Array.ext'
  simp [List.take_drop]
theorem PartK_scalar (off n : Nat) (l : List Value) (no : Prop) (K : Value → Prop) : PartK (some (off, false, n)) (.agg l.toArray) no K = (match l[off]? with | some v => K v | none => no) := by
  simp [PartK]
theorem pev_part {P : Program} {T : TypeId} {s : Bool × Nat} (h : shp P T = some s) (cs : Array Value) (off : Nat) :
    pev P (part T cs off) = if s.1 = true then some (.agg (cs.extract off (off + s.2))) else cs[off]? := by
  unfold shp at h
  cases hu : P.underlying T with
  | none => simp [hu] at h
  | some d =>
    cases hi : P.info? T with
    | none => simp [hu, hi] at h
    | some i =>
      simp only [hu, hi, Option.map_some, Option.bind_some, Option.some.injEq] at h; subst h
      simp only [part, pev_bind, pev_isAgg, hu, Option.map_some, Option.bind_some]
      cases aggD d with
      | true => simp [pev_sizeOf, hi, pev_map]
      | false => cases hc : cs[off]? <;> simp [pev, pure, stuck]
theorem Pu_fld {P : Program} (T : TypeId) (x : Value) (f : Nat) (K : Value → Prop) : Pu P (fld T x f) K = PartK (fsh P T f) x (Pu P (fld T x f) K) K := by
  have key : ∀ {off : Nat} {b : Bool} {n : Nat} {cs : Array Value}, fsh P T f = some (off, b, n) → pev P (Instr.field T (.agg cs) f) = if b = true then some (.agg (cs.extract off (off + n))) else cs[off]? := by
    intro off b n cs h
    unfold fsh at h
    split at h
    · rename_i fs hu
      cases hf : fs[f]? with
      | none => simp [hf] at h
      | some d =>
        cases hs : shp P d.type with
        | none => simp [hf, hs] at h
        | some s =>
          simp only [hf, hs, Option.bind_some, Option.map_some, Option.some.injEq, Prod.mk.injEq] at h
          obtain ⟨rfl, rfl, rfl⟩ := h
          simp only [Instr.field, pev_bind, pev_underlying, hu, Option.bind_some, hf, asAgg, pev_pure]
          exact pev_part hs cs _
    · cases h
  unfold PartK
  split
  · rename_i off n cs h; exact Pu_of (pev_val (by rw [key h]; rfl))
  · rename_i off n cs h
    split
    · rename_i v hv; exact Pu_of (pev_val (by rw [key h]; simpa using hv))
    · rfl
  · rfl

/-! ### Reckoning -/
section arith
variable {P : Program} (T : TypeId) (cx cy : Bool) (k : IntKind) (a b : Int) (K : Value → Prop)
theorem Pu_add : Pu P (bin .add T cx cy (.int k a) (.int k b)) K = K (.int k (k.wrap (a + b))) := Pu_of (pev_val (by simp [eqGuard, binOp, Op.intArith, pev_bind, pev_pure]))
theorem Pu_sub : Pu P (bin .sub T cx cy (.int k a) (.int k b)) K = K (.int k (k.wrap (a - b))) := Pu_of (pev_val (by simp [eqGuard, binOp, Op.intArith, pev_bind, pev_pure]))
theorem Pu_mul : Pu P (bin .mul T cx cy (.int k a) (.int k b)) K = K (.int k (k.wrap (a * b))) := Pu_of (pev_val (by simp [eqGuard, binOp, Op.intArith, pev_bind, pev_pure]))
theorem Pu_quo : Pu P (bin .quo T cx cy (.int k a) (.int k b)) K = IfK (b ≠ 0) (K (.int k (k.wrap (a.tdiv b)))) := by
  by_cases h : b = 0
  · exact (Pu_no (pev_val_no (by simp [eqGuard, binOp, Op.intDiv, pev_bind, pev_pure, h, runtimePanic, program, pev, goPanic]))).trans (by simp [IfK, h])
  · exact (Pu_of (pev_val (v := .int k (k.wrap (a.tdiv b))) (by simp [eqGuard, binOp, Op.intDiv, pev_bind, pev_pure, h]))).trans (by simp [IfK, h])
theorem Pu_rem : Pu P (bin .rem T cx cy (.int k a) (.int k b)) K = IfK (b ≠ 0) (K (.int k (a.tmod b))) := by
  by_cases h : b = 0
  · exact (Pu_no (pev_val_no (by simp [eqGuard, binOp, Op.intDiv, pev_bind, pev_pure, h, runtimePanic, program, pev, goPanic]))).trans (by simp [IfK, h])
  · exact (Pu_of (pev_val (v := .int k (a.tmod b)) (by simp [eqGuard, binOp, Op.intDiv, pev_bind, pev_pure, h]))).trans (by simp [IfK, h])
theorem Pu_eql : Pu P (bin .eql T cx cy (.int k a) (.int k b)) K = K (.bool (a == b)) := Pu_of (pev_val (by simp [eqGuard, binOp, Op.intCmp, pev_bind, pev_pure]))
theorem Pu_neq : Pu P (bin .neq T cx cy (.int k a) (.int k b)) K = K (.bool (a != b)) := Pu_of (pev_val (by simp [eqGuard, binOp, Op.intCmp, pev_bind, pev_pure]))
theorem Pu_lss : Pu P (bin .lss T cx cy (.int k a) (.int k b)) K = K (.bool (decide (a < b))) := Pu_of (pev_val (by simp [eqGuard, binOp, Op.intCmp, pev_bind, pev_pure]))
theorem Pu_leq : Pu P (bin .leq T cx cy (.int k a) (.int k b)) K = K (.bool (decide (a ≤ b))) := Pu_of (pev_val (by simp [eqGuard, binOp, Op.intCmp, pev_bind, pev_pure]))
theorem Pu_gtr : Pu P (bin .gtr T cx cy (.int k a) (.int k b)) K = K (.bool (decide (b < a))) := Pu_of (pev_val (by simp [eqGuard, binOp, Op.intCmp, pev_bind, pev_pure]))
theorem Pu_geq : Pu P (bin .geq T cx cy (.int k a) (.int k b)) K = K (.bool (decide (b ≤ a))) := Pu_of (pev_val (by simp [eqGuard, binOp, Op.intCmp, pev_bind, pev_pure]))
def bitsI (op : BinOp) (k : IntKind) (a b : Int) : Int :=
  let x := BitVec.ofInt k.bits a
  let y := BitVec.ofInt k.bits b
  k.wrap (match op with
    | .and => x &&& y
    | .or => x ||| y
    | .xor => x ^^^ y
    | _ => x &&& ~~~y : BitVec k.bits).toNat
theorem Pu_and : Pu P (bin .and T cx cy (.int k a) (.int k b)) K = K (.int k (bitsI .and k a b)) := Pu_of (pev_val (by simp [eqGuard, binOp, Op.intBits, pev_bind, pev_pure, bitsI]))
theorem Pu_or : Pu P (bin .or T cx cy (.int k a) (.int k b)) K = K (.int k (bitsI .or k a b)) := Pu_of (pev_val (by simp [eqGuard, binOp, Op.intBits, pev_bind, pev_pure, bitsI]))
theorem Pu_xor : Pu P (bin .xor T cx cy (.int k a) (.int k b)) K = K (.int k (bitsI .xor k a b)) := Pu_of (pev_val (by simp [eqGuard, binOp, Op.intBits, pev_bind, pev_pure, bitsI]))
theorem Pu_andNot : Pu P (bin .andNot T cx cy (.int k a) (.int k b)) K = K (.int k (bitsI .andNot k a b)) := Pu_of (pev_val (by simp [eqGuard, binOp, Op.intBits, pev_bind, pev_pure, bitsI]))
def shI (left : Bool) (k : IntKind) (a b : Int) : Int := if left then k.wrap (a * 2 ^ (min b.toNat k.bits)) else a.fdiv (2 ^ (min b.toNat k.bits))
theorem Pu_shl (k' : IntKind) : Pu P (bin .shl T cx cy (.int k a) (.int k' b)) K = IfK (0 ≤ b) (K (.int k (shI true k a b))) := by
  by_cases h : b < 0
  · exact (Pu_no (pev_val_no (by simp [eqGuard, binOp, Op.shift, pev_bind, pev_pure, h, runtimePanic, program, pev, goPanic]))).trans (by simp [IfK]; omega)
  · exact (Pu_of (pev_val (v := .int k (shI true k a b)) (by simp [eqGuard, binOp, Op.shift, pev_bind, pev_pure, h, shI]))).trans (by simp [IfK, Int.not_lt.1 h])
theorem Pu_shr (k' : IntKind) : Pu P (bin .shr T cx cy (.int k a) (.int k' b)) K = IfK (0 ≤ b) (K (.int k (shI false k a b))) := by
  by_cases h : b < 0
  · exact (Pu_no (pev_val_no (by simp [eqGuard, binOp, Op.shift, pev_bind, pev_pure, h, runtimePanic, program, pev, goPanic]))).trans (by simp [IfK]; omega)
  · exact (Pu_of (pev_val (v := .int k (shI false k a b)) (by simp [eqGuard, binOp, Op.shift, pev_bind, pev_pure, h, shI]))).trans (by simp [IfK, Int.not_lt.1 h])
theorem Pu_not (x : Bool) : Pu P (un .not (.bool x)) K = K (.bool !x) := Pu_of (pev_val rfl)
theorem Pu_neg : Pu P (un .neg (.int k a)) K = K (.int k (k.wrap (0 - a))) := Pu_of (pev_val rfl)
theorem Pu_pk (x : Bool) (u v : Value) : Pu P (pk (.bool x) u v) K = K (if x = true then u else v) := by
  refine Pu_of ?_
  simp [pk, asBool, pev_bind, pev_pure]
theorem Pu_mkf (fn : Fn) (u v : Array Value) : Pu P (mkf fn u v) K = K (.func fn u v) := Pu_of (pev_val rfl)
theorem Pu_ext (l : List Value) (i : Nat) : Pu P (ext (.tuple l.toArray) i) K = OpK l[i]? K := by
  cases h : l[i]? with
  | none => exact (Pu_no (pev_val_no (by simp [Instr.extract, h, stuck, pev]))).trans (by simp [OpK])
  | some v => exact (Pu_of (pev_val (v := v) (by simp [Instr.extract, h, pev_pure]))).trans (by simp [OpK])
end arith
theorem Nx_cvt {P : Program} {s d : TypeId} {k k' : IntKind} {n : Int} {w : World} {K : Value → World → Prop} (hs : ∃ j, P.underlying s = some (.int j)) (hd : P.underlying d = some (.int k)) :
    Nx P (cvt s d (.int k' n)) w K = K (.int k (k.wrap n)) w := by
  obtain ⟨j, hs⟩ := hs
  refine Nx_of_run (rdev_run ?_)
  simp [cvt, convert, rdev_bind, rdev_underlying, hs, hd, Conv.intToInt, rdev_pure]
end Go.Proofs.YthdaccndnfgeeaaGreatDoor.CM
