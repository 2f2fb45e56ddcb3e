/- What each operation of the model comes to, in forms that simp can reckon with: no program in sight. -/
import Derived.Test.YthdaccndnfgeeaaGreatDoorEnv
import Derived.Laws.World
import Derived.Lib.FrozenHead
namespace Go.Proofs.YthdaccndnfgeeaaGreatDoor.CM
open Go

/-! ### The steps by name (each is what execOp makes of its operation) -/
def ld (T : TypeId) (x : Value) : Sem Next := do pure (.value (← Instr.loadAt T x))
def st (T : TypeId) (x v : Value) : Sem Next := do Instr.storeAt T x v; pure .skip
def al (T : TypeId) : Sem Next := do pure (.value (← Instr.alloc T true (.tuple #[])))
def bx (T : TypeId) (v : Value) : Sem Next := do pure (.value (← Instr.box T v))
def bld (T : TypeId) (ps : Array (Nat × Value)) : Sem Next := do pure (.value (← Instr.build T ps))
def bsl (T : TypeId) (n : Nat) (ps : Array (Nat × Value)) : Sem Next := do pure (.value (← Instr.buildSlice T n ps))
def nc (x : Value) : Sem Next :=
  match x with
  | .pointer none | .nilIface | .nilFunc => runtimePanic .nilDeref
  | .func (.method name) first captured =>
    match (first[0]? : Option Value) with
    | some .nilIface => runtimePanic .nilDeref
    | some (.iface t w) => do
      if (← nilAhead ((← program).types.size + Made.depth) t w name) != some false then
        unsupported (.noEntry "op/nilCheck.the method's receiver behind this interface value is a nil pointer, or cannot be seen to be none, and the arguments act or may panic (ledger 612)")
      pure (.value (.func (.method name) first captured))
    | _ => pure (.value (.func (.method name) first captured))
  | x => pure (.value x)
def bin (op : BinOp) (T : TypeId) (cx cy : Bool) (x y : Value) : Sem Next := do
  pure (.value (← (do eqGuard op T (if cx then .const undef else .tmp 0) (if cy then .const undef else .tmp 0) x y; binOp op T x y)))
def un (op : UnOp) (x : Value) : Sem Next := do pure (.value (← Op.unary op x))
def cvt (s d : TypeId) (x : Value) : Sem Next := do pure (.value (← convert s d x))
def mki (T : TypeId) (x : Value) : Sem Next := do pure (.value (← Instr.makeInterface T x))
def mkf (fn : Fn) (first cap : Array Value) : Sem Next := do pure (.value (← Instr.makeFunc fn first cap))
def mkm (T : TypeId) (r : Option Value) : Sem Next := do pure (.value (← Instr.makeMap T r))
def mks (T : TypeId) (l c : Value) : Sem Next := do pure (.value (← Instr.makeSlice T l c))
def slc (T : TypeId) (x : Value) (lo hi mx : Option Value) : Sem Next := do pure (.value (← Instr.sliceAt T x lo hi mx))
def fa (T : TypeId) (x : Value) (f : Nat) : Sem Next := do pure (.value (← Instr.fieldAt T x f))
def fld (T : TypeId) (x : Value) (f : Nat) : Sem Next := do pure (.value (← Instr.field T x f))
def ixa (T : TypeId) (x i : Value) : Sem Next := do pure (.value (← Instr.indexAt T x i))
def ixv (T : TypeId) (x i : Value) : Sem Next := do pure (.value (← Instr.index T x i))
def lkp (T : TypeId) (x i : Value) (ok : Bool) : Sem Next := do pure (.value (← Instr.lookup T x i ok))
def mpu (T : TypeId) (m k x : Value) : Sem Next := do Instr.mapUpdate T m k x; pure .skip
def rng (T : TypeId) (x : Value) : Sem Next := do pure (.value (← Instr.range T x))
def nxt (it : Value) (s : Bool) (T : TypeId) : Sem Next := do pure (.value (← Instr.next it s T))
def tas (x : Value) (s T : TypeId) (ok : Bool) : Sem Next := do pure (.value (← Instr.typeAssert x s T ok))
def ext (t : Value) (i : Nat) : Sem Next := do pure (.value (← Instr.extract t i))
def pk (c a b : Value) : Sem Next := do pure (.value (if ← asBool c then a else b))
def bi (b : Builtin) (ts : Array TypeId) (T : TypeId) (cs : Array Bool) (args : Array Value) : Sem Next := builtin b ts T cs args
def cv (f : Value) (args : Array Value) : Sem Next := do let d ← Deferred.ofValue f args; invoke d.target d.args
def a2p (T : TypeId) (x : Value) : Sem Next := do pure (.value (← Instr.arrayAt T x))
def ldr (T : TypeId) (x : Value) : Sem Next := do pure (.value (← loadVar T (← asAddr x)))

/-! ### What simp may look into -/
@[congr] theorem Rd_congr {P : Program} {s s' : Sem Next} {w w' : World} {K : Value → Prop} (h : s = s') (hw : w = w') : Rd P s w K = Rd P s' w' K := by rw [h, hw]
@[congr] theorem Pu_congr {P : Program} {s s' : Sem Next} {K : Value → Prop} (h : s = s') : Pu P s K = Pu P s' K := by rw [h]
@[congr] theorem Nx_congr {P : Program} {s s' : Sem Next} {w w' : World} {K : Value → World → Prop} (h : s = s') (hw : w = w') : Nx P s w K = Nx P s' w' K := by rw [h, hw]
@[congr] theorem Fc_congr {P : Program} {f : FuncId} {args args' : Array Value} {w w' : World} {K : Value → World → Prop} (h : args = args') (hw : w = w') : Fc P f args w K = Fc P f args' w' K := by rw [h, hw]
@[congr] theorem Cnd_congr {v v' : Value} {A B : Prop} (h : v = v') : Cnd v A B = Cnd v' A B := by rw [h]
@[congr] theorem Gd_congr {v v' : Value} {b : Bool} {E : (Value → World → Prop) → Prop} {w w' : World} {K : Value → World → Prop} (h : v = v') (hw : w = w') : Gd v b E w K = Gd v' b E w' K := by rw [h, hw]
theorem Cnd_iff (v : Value) (A B : Prop) : Cnd v A B ↔ (v = .bool true ∧ A) ∨ (v = .bool false ∧ B) := ⟨fun h => h.out, fun h => ⟨h⟩⟩
theorem Gd_iff (v : Value) (b : Bool) (E : (Value → World → Prop) → Prop) (w : World) (K : Value → World → Prop) : Gd v b E w K ↔ (v = .bool b ∧ E K) ∨ (v ≠ .bool b ∧ K undef w) := ⟨fun h => h.out, fun h => ⟨h⟩⟩
theorem Pu_iff (P : Program) (s : Sem Next) (K : Value → Prop) : Pu P s K ↔ ∃ v, nval (pev P s) = some v ∧ K v := ⟨fun h => h.out, fun h => ⟨h⟩⟩
theorem Rd_iff (P : Program) (s : Sem Next) (w : World) (K : Value → Prop) : Rd P s w K ↔ ∃ v, nval (rdev P s w) = some v ∧ K v := ⟨fun h => h.out, fun h => ⟨h⟩⟩
theorem Nx_iff (P : Program) (s : Sem Next) (w : World) (K : Value → World → Prop) : Nx P s w K ↔ NxD P s w K := ⟨fun h => h.out, fun h => ⟨h⟩⟩
theorem Cnd_true {A B : Prop} : Cnd (.bool true) A B = A := by simp [Cnd_iff]
theorem Cnd_false {A B : Prop} : Cnd (.bool false) A B = B := by simp [Cnd_iff]
theorem Cnd_bool {b : Bool} {A B : Prop} : Cnd (.bool b) A B = if b = true then A else B := by cases b <;> simp [Cnd_iff]
section gd
variable {E : (Value → World → Prop) → Prop} {w : World} {K : Value → World → Prop}
theorem Gd_true_t : Gd (.bool true) true E w K = E K := by simp [Gd_iff]
theorem Gd_true_f : Gd (.bool true) false E w K = K undef w := by simp [Gd_iff]
theorem Gd_false_t : Gd (.bool false) true E w K = K undef w := by simp [Gd_iff]
theorem Gd_false_f : Gd (.bool false) false E w K = E K := by simp [Gd_iff]
theorem Gd_bool {b c : Bool} : Gd (.bool b) c E w K = if b = c then E K else K undef w := by cases b <;> cases c <;> simp [Gd_iff]
theorem Gd_undef {c : Bool} : Gd undef c E w K = K undef w := by simp [Gd_iff, undef]
end gd

/-! ### Memory -/
def bk (w : World) (b : Nat) : Option Obj := w.heap[b]?
def sz (w : World) : Nat := w.heap.size
def cl (c : List Value) (T : TypeId) : Obj := .cells c.toArray T (0, 0)
def recell (c : List Value) : Obj → Obj
  | .cells _ T fr => .cells c.toArray T fr
  | o => o
/-- Block b holds other cells. -/
def wr (w : World) (b : Nat) (c : List Value) : World := { w with heap := w.heap.modify b (recell c) }
def ptr (b o : Nat) : Value := .pointer (some ⟨b, o, none⟩)

theorem bk_alloc (w : World) (o : Obj) (b : Nat) : bk (w.alloc o) b = if b = sz w then some o else bk w b := by
  simp only [bk, World.alloc, sz, Array.getElem?_push]
  by_cases h : b = w.heap.size <;> simp [h]
theorem bk_wr (w : World) (b' : Nat) (c : List Value) (b : Nat) : bk (wr w b' c) b = if b = b' then (bk w b).map (recell c) else bk w b := by
  simp only [bk, wr, Array.getElem?_modify]
  by_cases h : b' = b
  · subst h; simp
  · rw [if_neg h, if_neg (Ne.symm h)]
theorem bk_dr (w : World) (b : Nat) : bk (dr w) b = bk w b := rfl
theorem sz_alloc (w : World) (o : Obj) : sz (w.alloc o) = sz w + 1 := by unfold sz World.alloc; simp
theorem sz_wr (w : World) (b : Nat) (c : List Value) : sz (wr w b c) = sz w := by simp [sz, wr]
theorem sz_dr (w : World) : sz (dr w) = sz w := rfl
theorem recell_cl (c c' : List Value) (T : TypeId) : recell c (cl c' T) = cl c T := rfl
theorem map_some {α β : Type} (f : α → β) (a : α) : (some a).map f = some (f a) := rfl
theorem bk_lt {w : World} {b : Nat} {o : Obj} (h : bk w b = some o) : b < sz w := by
  unfold bk at h; unfold sz; exact (Array.getElem?_eq_some_iff.1 h).1
theorem ne_of_lt_self {b n : Nat} (h : b < n) : (b = n) = False := by simp; omega
theorem ne_of_lt_add {b n k : Nat} (h : b < n) : (b = n + k) = False := by simp; omega
theorem ne_add_self {n k : Nat} (h : k ≠ 0) : (n = n + k) = False := by simp; omega
theorem ne_add_self' {n k : Nat} (h : k ≠ 0) : (n + k = n) = False := by simp; omega

/-! ### Loads -/
def aggD : TypeDesc → Bool
  | .struct _ | .array _ _ => true
  | _ => false
/-- Is a type's value made of parts; how many cells has it? -/
def shp (P : Program) (T : TypeId) : Option (Bool × Nat) := (P.underlying T).bind fun d => (P.info? T).map fun i => (aggD d, i.size)

def LdK (s : Option (Bool × Nat)) (o : Option Obj) (off : Nat) (K : Value → Prop) : Prop :=
  match s, o with
  | some (false, _), some (.cells c _ _) => ∃ v, c[off]? = some v ∧ K v
  | some (true, n), some (.cells c _ _) => (n = 0 ∨ off + n ≤ c.size) ∧ K (.agg ((c.toList.drop off).take n).toArray)
  | some (true, 0), _ => K (.agg #[])
  | _, _ => False
@[congr] theorem LdK_congr {s s' : Option (Bool × Nat)} {o o' : Option Obj} {off off' : Nat} {K : Value → Prop} (h : s = s') (h2 : o = o') (h3 : off = off') : LdK s o off K = LdK s' o' off' K := by rw [h, h2, h3]
def OpK {α : Type} (o : Option α) (K : α → Prop) : Prop := ∃ v, o = some v ∧ K v
@[congr] theorem OpK_congr {α : Type} {o o' : Option α} {K : α → Prop} (h : o = o') : OpK o K = OpK o' K := by rw [h]
theorem OpK_some {α : Type} (v : α) (K : α → Prop) : OpK (some v) K = K v := by simp [OpK]
def IfElse (c A B : Prop) [Decidable c] : Prop := if c then A else B
@[congr] theorem IfElse_congr {c c' A B : Prop} [Decidable c] [Decidable c'] (h : c = c') : IfElse c A B = IfElse c' A B := by subst h; unfold IfElse; congr
theorem IfElse_true {A B : Prop} [Decidable True] : IfElse True A B = A := by simp [IfElse]
theorem IfElse_false {A B : Prop} [Decidable False] : IfElse False A B = B := by simp [IfElse]
def IfK (c : Prop) (K : Prop) : Prop := c ∧ K
@[congr] theorem IfK_congr {c c' K : Prop} (h : c = c') : IfK c K = IfK c' K := by rw [h]
theorem IfK_true {K : Prop} : IfK True K = K := by simp [IfK]
theorem LdK_scalar (n : Nat) (c : List Value) (T : TypeId) (off : Nat) (K : Value → Prop) : LdK (some (false, n)) (some (cl c T)) off K = OpK c[off]? K := by
  simp [LdK, cl, OpK]
theorem LdK_agg (n : Nat) (c : List Value) (T : TypeId) (off : Nat) (K : Value → Prop) : LdK (some (true, n + 1)) (some (cl c T)) off K = IfK (off + (n + 1) ≤ c.length) (K (.agg ((c.drop off).take (n + 1)).toArray)) := by
  simp [LdK, cl, IfK]

theorem rdev_bind {P : Program} {α β : Type} (s : Sem α) (f : α → Sem β) (w : World) : rdev P (s >>= f) w = (rdev P s w).bind fun a => rdev P (f a) w := by
  show rdev P (s.bind f) w = _
  induction s with
  | pure a => rfl
  | program k ih => exact ih _
  | mark m k ih => exact ih
  | load m a k ih => simp only [Sem.bind, rdev]; split <;> simp [ih]
  | getObj r k ih => simp only [Sem.bind, rdev]; split <;> simp [ih]
  | shape r k ih => exact ih _
  | frozen a k ih => exact ih _
  | _ => rfl
theorem pev_bind {P : Program} {α β : Type} (s : Sem α) (f : α → Sem β) : pev P (s >>= f) = (pev P s).bind fun a => pev P (f a) := by
  show pev P (s.bind f) = _
  induction s with
  | pure a => rfl
  | program k ih => exact ih _
  | mark m k ih => exact ih
  | _ => rfl
theorem rdev_pure {P : Program} {α : Type} (a : α) (w : World) : rdev P (pure a : Sem α) w = some a := rfl
theorem pev_pure {P : Program} {α : Type} (a : α) : pev P (pure a : Sem α) = some a := rfl

theorem cell_bk (w : World) (a : Addr) : w.cell? a = match bk w a.block with | some (.cells c _ _) => if a.spot.isSome then none else c[a.off]? | _ => none := rfl

theorem rdev_loadCells {P : Program} (b off : Nat) (w : World) (c : Array Value) (E : TypeId) (fr : Nat × Nat) (hb : bk w b = some (.cells c E fr)) : ∀ (n i : Nat) (acc : Array Value),
    rdev P (loadCellsFrom ⟨b, off, none⟩ i n acc) w = if n = 0 ∨ off + i + n ≤ c.size then some (acc ++ ((c.toList.drop (off + i)).take n).toArray) else none := by
  intro n
  induction n with
  | zero => intro i acc; simp [loadCellsFrom, rdev_pure]
  | succ n ih =>
    intro i acc
    have hadd : (⟨b, off, none⟩ : Addr).add i = ⟨b, off + i, none⟩ := by
      unfold Addr.add; split
      · rename_i h; simp [h]
      · rfl
    simp only [loadCellsFrom, rdev_bind]
    simp only [load, rdev, hadd, cell_bk, hb, Option.isSome_none, Bool.false_eq_true, if_false]
    by_cases hlt : off + i < c.size
    · simp only [Array.getElem?_eq_getElem hlt, Option.bind_some, ih, Nat.succ_ne_zero, false_or]
      by_cases h2 : off + i + (n + 1) ≤ c.size
      · rw [if_pos (by omega), if_pos h2]
        congr 1
        have hd : c.toList.drop (off + i) = c[off + i] :: c.toList.drop (off + (i + 1)) := by
          rw [List.drop_eq_getElem_cons (by simpa using hlt)]; simp [Nat.add_assoc]
        rw [hd, List.take_succ_cons]
        simp
      · rw [if_neg h2, if_neg (by omega)]
    · simp only [Array.getElem?_eq_none (Nat.not_lt.1 hlt), Option.bind_none, Nat.succ_ne_zero, false_or]
      rw [if_neg (by omega)]

theorem rdev_loadCells_no {P : Program} (b off : Nat) (w : World) (hb : ∀ c E fr, bk w b ≠ some (.cells c E fr)) (n i : Nat) (acc : Array Value) :
    rdev P (loadCellsFrom ⟨b, off, none⟩ i n acc) w = if n = 0 then some acc else none := by
  cases n with
  | zero => simp [loadCellsFrom, rdev_pure]
  | succ n =>
    have hblk : ((⟨b, off, none⟩ : Addr).add i).block = b := by unfold Addr.add; split <;> rfl
    simp only [loadCellsFrom, rdev_bind, load, rdev, cell_bk, hblk]
    cases hh : bk w b with
    | none => simp
    | some o => cases o <;> first | (simp; done) | exact absurd hh (hb _ _ _)

theorem rdev_underlying {P : Program} (T : TypeId) (w : World) : rdev P (underlying T) w = P.underlying T := by
  simp only [underlying, rdev_bind, program, rdev, Option.bind_some]
  cases P.underlying T <;> simp [rdev, stuck, pure]
theorem rdev_typeInfo {P : Program} (T : TypeId) (w : World) : rdev P (typeInfo T) w = P.info? T := by
  simp only [typeInfo, rdev_bind, program, rdev, Option.bind_some]
  cases P.info? T <;> simp [rdev, stuck, pure]
theorem rdev_sizeOf {P : Program} (T : TypeId) (w : World) : rdev P (sizeOf T) w = (P.info? T).map (·.size) := by
  simp only [sizeOf, rdev_bind, rdev_typeInfo]
  cases P.info? T <;> rfl
theorem rdev_isAgg {P : Program} (T : TypeId) (w : World) : rdev P (isAgg T) w = (P.underlying T).map aggD := by
  simp only [isAgg, rdev_bind, rdev_underlying]
  cases P.underlying T with
  | none => rfl
  | some d => cases d <;> rfl
theorem pev_underlying {P : Program} (T : TypeId) : pev P (underlying T) = P.underlying T := by
  simp only [underlying, pev_bind, program, pev, Option.bind_some]
  cases P.underlying T <;> simp [pev, stuck, pure]
theorem pev_typeInfo {P : Program} (T : TypeId) : pev P (typeInfo T) = P.info? T := by
  simp only [typeInfo, pev_bind, program, pev, Option.bind_some]
  cases P.info? T <;> simp [pev, stuck, pure]
theorem pev_sizeOf {P : Program} (T : TypeId) : pev P (sizeOf T) = (P.info? T).map (·.size) := by
  simp only [sizeOf, pev_bind, pev_typeInfo]
  cases P.info? T <;> rfl
theorem pev_isAgg {P : Program} (T : TypeId) : pev P (isAgg T) = (P.underlying T).map aggD := by
  simp only [isAgg, pev_bind, pev_underlying]
  cases P.underlying T with
  | none => rfl
  | some d => cases d <;> rfl

theorem info_of_underlying {P : Program} {T : TypeId} {d : TypeDesc} (h : P.underlying T = some d) : (P.info? T).isSome = true := by
  unfold Program.underlying at h
  split at h <;> simp_all

/-- What a load comes to. -/
theorem rdev_loadVar {P : Program} (T : TypeId) (b off : Nat) (w : World) :
    rdev P (loadVar T ⟨b, off, none⟩) w = match shp P T, bk w b with
      | some (false, _), some (.cells c _ _) => c[off]?
      | some (true, n), some (.cells c _ _) => if n = 0 ∨ off + n ≤ c.size then some (.agg ((c.toList.drop off).take n).toArray) else none
      | some (true, 0), _ => some (.agg #[])
      | _, _ => none := by
  unfold loadVar shp
  rw [rdev_bind, rdev_isAgg]
  cases hu : P.underlying T with
  | none => simp
  | some d =>
    have hi := info_of_underlying hu
    obtain ⟨i, hi⟩ := Option.isSome_iff_exists.1 hi
    simp only [Option.map_some, Option.bind_some, hi]
    cases hd : aggD d with
    | false =>
      simp only [Bool.false_eq_true, if_false, load, rdev, cell_bk, Option.isSome_none]
      cases hb : bk w b with
      | none => simp
      | some o =>
        cases o <;> simp
        case cells c E fr => cases c[off]? <;> rfl
    | true =>
      simp only [if_true, rdev_bind, rdev_sizeOf, hi, Option.map_some, Option.bind_some, loadCells]
      cases hb : bk w b with
      | none =>
        rw [rdev_loadCells_no b off w (by simp [hb])]
        cases hs : i.size <;> simp [rdev_pure]
      | some o =>
        cases o with
        | cells c E fr =>
          rw [rdev_loadCells b off w c E fr hb]
          simp only [Nat.add_zero]
          split <;> simp_all [rdev_pure]
        | _ =>
          rw [rdev_loadCells_no b off w (by simp [hb])]
          cases hs : i.size <;> simp [rdev_pure]

theorem Rd_ld {P : Program} (T : TypeId) (b off : Nat) (w : World) (K : Value → Prop) : Rd P (ld T (ptr b off)) w K = LdK (shp P T) (bk w b) off K := by
  have e : nval (rdev P (ld T (ptr b off)) w) = rdev P (loadVar T ⟨b, off, none⟩) w := by
    simp only [ld, ptr, Instr.loadAt, Instr.sureAddr, rdev_bind, rdev_pure, Option.bind_some]
    cases rdev P (loadVar T ⟨b, off, none⟩) w <;> rfl
  rw [eq_iff_iff, Rd_iff]
  unfold LdK
  rw [e, rdev_loadVar]
  split <;> simp_all
  · rename_i n c E fr _ _
    exact ⟨fun ⟨v, ⟨h, hv⟩, hk⟩ => ⟨h, hv ▸ hk⟩, fun ⟨h, hk⟩ => ⟨_, ⟨h, rfl⟩, hk⟩⟩

/-! ### Stores -/
def scalarV : Value → Bool
  | .agg _ | .tuple _ => false
  | _ => true
def spl (c : List Value) (off : Nat) (l : List Value) : List Value := c.take off ++ l ++ c.drop (off + l.length)
theorem wr_self {w : World} {b : Nat} {c : Array Value} {T : TypeId} {fr : Nat × Nat} (h : bk w b = some (.cells c T fr)) : wr w b c.toList = w := by
  unfold wr
  cases w with
  | mk heap tape drawn os output =>
    congr 1
    apply Array.ext
    · simp
    · intro k h1 h2
      simp only [Array.getElem_modify]
      split
      · rename_i hk; subst hk
        have : heap[b]? = some heap[b] := Array.getElem?_eq_getElem h2
        unfold bk at h; simp only at h; rw [this] at h; simp only [Option.some.injEq] at h
        rw [h]; simp [recell]
      · rfl
theorem wr_wr (w : World) (b : Nat) (c c' : List Value) : wr (wr w b c) b c' = wr w b c' := by
  unfold wr
  congr 1
  apply Array.ext
  · simp
  · intro k h1 h2
    simp only [Array.getElem_modify]
    split
    · generalize w.heap[k]'(by simpa using h1) = o
      cases o <;> rfl
    · rfl
theorem setCell_wr {w : World} {b o : Nat} {c : Array Value} {T : TypeId} {fr : Nat × Nat} (h : bk w b = some (.cells c T fr)) (v : Value) : w.setCell ⟨b, o, none⟩ v = wr w b (c.setIfInBounds o v).toList := by
  unfold World.setCell wr
  congr 1
  apply Array.ext
  · simp
  · intro k h1 h2
    simp only [Array.getElem_modify]
    split
    · rename_i hk; subst hk
      have hk2 : b < w.heap.size := by simpa using h1
      have : w.heap[b]? = some w.heap[b] := Array.getElem?_eq_getElem hk2
      unfold bk at h; rw [this] at h; simp only [Option.some.injEq] at h
      rw [h]; simp only [recell, Option.isSome_none, Bool.false_eq_true, if_false, Array.toArray_toList]
    · rfl
theorem run_storeCells {P : Program} (b off : Nat) (T : TypeId) (fr : Nat × Nat) : ∀ (l : List Value) (i : Nat) (c : Array Value) (w : World), bk w b = some (.cells c T fr) → off + i + l.length ≤ c.size → (fr.2 ≤ off + i ∨ off + i + l.length ≤ fr.1) → l.all scalarV = true →
    (storeCells ⟨b, off, none⟩ l i).run P w = .ok () (wr w b (spl c.toList (off + i) l))
  | [], i, c, w, hb, _, _, _ => by
    simp only [storeCells, spl, List.append_nil, List.length_nil, Nat.add_zero, List.take_append_drop]
    rw [wr_self hb]; rfl
  | v :: l, i, c, w, hb, hsz, hfr, hsc => by
    simp only [List.length_cons] at hsz hfr
    simp only [List.all_cons, Bool.and_eq_true] at hsc
    have hadd : (⟨b, off, none⟩ : Addr).add i = ⟨b, off + i, none⟩ := by
      unfold Addr.add; split
      · rename_i h; simp [h]
      · rfl
    have hlt : off + i < c.size := by omega
    have hcell : w.cell? ⟨b, off + i, none⟩ = some c[off + i] := by rw [cell_bk]; simp only [hb]; simp [hlt]
    have hfz : w.frozen? ⟨b, off + i, none⟩ = false := by
      unfold World.frozen?; unfold bk at hb; rw [hb]; simp; omega
    have h1 : (store ((⟨b, off, none⟩ : Addr).add i) v).run P w = .ok () (wr w b (c.setIfInBounds (off + i) v).toList) := by
      rw [hadd, ← setCell_wr hb]
      unfold store
      cases v <;> simp [scalarV] at hsc <;> simp [Sem.run, hcell, hfz]
    have hb' : bk (wr w b (c.setIfInBounds (off + i) v).toList) b = some (.cells (c.setIfInBounds (off + i) v) T fr) := by
      rw [bk_wr, if_pos rfl, hb]; simp only [recell, Option.map_some, Array.toArray_toList]
    have ih := run_storeCells (P := P) b off T fr l (i + 1) (c.setIfInBounds (off + i) v) _ hb' (by simp; omega) (by omega) hsc.2
    simp only [storeCells, Sem.run_bind, h1, Result.andThen_ok]
    rw [ih, wr_wr]
    congr 2
    unfold spl
    simp only [Array.toList_setIfInBounds, List.length_cons]
    have e1 : (c.toList.set (off + i) v).take (off + (i + 1)) = c.toList.take (off + i) ++ [v] := by
      rw [show off + (i + 1) = off + i + 1 by omega, List.take_add_one, List.take_set_of_le (Nat.le_refl _)]
      simp [hlt]
    rw [e1, List.drop_set_of_lt (by omega)]
    simp [Nat.add_assoc, Nat.add_comm 1]

/-- What a store comes to. 'no': elsewhere than in a row of cells. -/
def StK (n : Nat) (o : Option Obj) (off : Nat) (v : Value) (w : World) (b : Nat) (no : Prop) (K : Value → World → Prop) : Prop :=
  match o with
  | some (.cells c _ fr) => if v.cells.size = n ∧ off + n ≤ c.size ∧ (fr.2 ≤ off ∨ off + n ≤ fr.1) ∧ v.cells.toList.all scalarV = true then K undef (wr w b (spl c.toList off v.cells.toList)) else no
  | _ => no
@[congr] theorem StK_congr {n n' : Nat} {o o' : Option Obj} {off off' : Nat} {v v' : Value} {w w' : World} {b b' : Nat} {no : Prop} {K : Value → World → Prop} (h1 : n = n') (h2 : o = o') (h3 : off = off') (h4 : v = v') (h5 : w = w') (h6 : b = b') :
    StK n o off v w b no K = StK n' o' off' v' w' b' no K := by subst h1 h2 h3 h4 h5 h6; rfl
def szT (P : Program) (T : TypeId) : Option Nat := (P.info? T).map (·.size)
/-- The size, where there is a type; else one that no value has. -/
theorem run_storeVar {P : Program} {T : TypeId} {b off : Nat} {v : Value} {w : World} {c : Array Value} {E : TypeId} {fr : Nat × Nat} (hb : bk w b = some (.cells c E fr))
    (hs : szT P T = some v.cells.size) (h2 : off + v.cells.size ≤ c.size) (h3 : fr.2 ≤ off ∨ off + v.cells.size ≤ fr.1) (h4 : v.cells.toList.all scalarV = true) :
    (storeVar T ⟨b, off, none⟩ v).run P w = .ok () (wr w b (spl c.toList off v.cells.toList)) := by
  unfold storeVar
  have e : (sizeOf T).run P w = .ok v.cells.size w := rdev_run (by rw [rdev_sizeOf]; exact hs)
  have h := run_storeCells (P := P) b off E fr v.cells.toList 0 c w hb (by simpa using h2) (by simpa using h3) h4
  simp only [Nat.add_zero] at h
  simp only [Sem.run_bind, e, Result.andThen_ok, ne_eq, not_true_eq_false, if_false, Sem.run_pure, h]
def szD (o : Option Nat) (v : Value) : Nat := match o with | some n => n | none => v.cells.size + 1
theorem szD_some (n : Nat) (v : Value) : szD (some n) v = n := rfl
theorem Nx_st {P : Program} (T : TypeId) (b off : Nat) (v : Value) (w : World) (K : Value → World → Prop) :
    Nx P (st T (ptr b off) v) w K = StK (szD (szT P T) v) (bk w b) off v w b (Nx P (st T (ptr b off) v) w K) K := by
  unfold StK
  split
  · rename_i c E fr hb
    split
    · rename_i h
      obtain ⟨h1, h2, h3, h4⟩ := h
      have hs : szT P T = some v.cells.size := by
        cases hh : szT P T with
        | none => rw [hh] at h1; simp [szD] at h1
        | some n => rw [hh] at h1; simp only [szD] at h1; rw [h1]
      rw [← h1] at h2 h3
      have e : (st T (ptr b off) v).run P w = .ok .skip (wr w b (spl c.toList off v.cells.toList)) := by
        unfold st Instr.storeAt ptr Instr.sureAddr
        simp only [Sem.run_bind, Sem.run_pure, Result.andThen_ok]
        rw [run_storeVar hb hs h2 h3 h4]; rfl
      rw [eq_iff_iff, Nx_iff]
      unfold NxD
      rw [e]
    · rfl
  · rfl
theorem StK_cl (n : Nat) (c : List Value) (T : TypeId) (off : Nat) (v : Value) (w : World) (b : Nat) (no : Prop) (K : Value → World → Prop) :
    StK n (some (cl c T)) off v w b no K = if v.cells.size = n ∧ off + n ≤ c.length ∧ v.cells.toList.all scalarV = true then K undef (wr w b (spl c off v.cells.toList)) else no := by
  simp [StK, cl]
/-- A store of one cell. -/
theorem StK_one (c : List Value) (T : TypeId) (off : Nat) (v : Value) (w : World) (b : Nat) (no : Prop) (K : Value → World → Prop) (h : scalarV v = true) :
    StK 1 (some (cl c T)) off v w b no K = IfElse (off < c.length) (K undef (wr w b (c.set off v))) no := by
  have hc : v.cells = #[v] := by cases v <;> first | rfl | simp [scalarV] at h
  simp only [StK_cl, hc, IfElse]
  by_cases hlt : off < c.length
  · rw [if_pos ⟨rfl, hlt, by simp [h]⟩, if_pos hlt]
    congr 2
    unfold spl
    rw [List.set_eq_take_append_cons_drop]
    simp [hlt]
  · rw [if_neg (fun h => hlt h.2.1), if_neg hlt]
/-- A store of an array or a struct. -/
theorem StK_agg (n : Nat) (c : List Value) (T : TypeId) (off : Nat) (l : List Value) (w : World) (b : Nat) (no : Prop) (K : Value → World → Prop) :
    StK n (some (cl c T)) off (.agg l.toArray) w b no K = IfElse (l.length = n ∧ off + n ≤ c.length ∧ l.all scalarV = true) (K undef (wr w b (spl c off l))) no := by
  simp [StK_cl, Value.cells, IfElse]
end Go.Proofs.YthdaccndnfgeeaaGreatDoor.CM
