/- An evaluator over the model's code, for closed runs: values whose blocks are names, memory by names. No program in sight. -/
import Derived.Test.YthdaccndnfgeeaaGreatDoorOps2
namespace Go.Proofs.YthdaccndnfgeeaaGreatDoor.CM
open Go

/-! ### Names and what stands under them -/
inductive Bp where
  | h
  | o (p : Bp)
  | i (p : Bp)
  deriving DecidableEq
noncomputable def Bp.succ (p : Bp) : Bp := Bp.rec (.o .h) (fun p _ => .i p) (fun _ ih => .o ih) p
/-- The name of n ≥ 1, by its bits. -/
noncomputable def bpF (f : Nat) : Nat → Bp :=
  Nat.rec (fun _ => .h) (fun _ ih n => Bool.rec (Bool.rec (.i (ih (Nat.div n 2))) (.o (ih (Nat.div n 2))) (Nat.beq (Nat.mod n 2) 0)) .h (Nat.ble n 1)) f
noncomputable def bp (n : Nat) : Bp := bpF (Nat.succ n) (Nat.succ n)
inductive Tr (α : Type) where
  | e
  | n (v : Option α) (l r : Tr α)
noncomputable def Tr.get {α : Type} (t : Tr α) (p : Bp) : Option α :=
  Bp.rec (motive := fun _ => Tr α → Option α)
    (Tr.rec none (fun v _ _ _ _ => v))
    (fun _ ih => Tr.rec none (fun _ l _ _ _ => ih l))
    (fun _ ih => Tr.rec none (fun _ _ r _ _ => ih r)) p t
noncomputable def Tr.put {α : Type} (t : Tr α) (p : Bp) (a : α) : Tr α :=
  Bp.rec (motive := fun _ => Tr α → Tr α)
    (Tr.rec (.n (some a) .e .e) (fun _ l r _ _ => .n (some a) l r))
    (fun _ ih => Tr.rec (.n none (ih .e) .e) (fun v l r _ _ => .n v (ih l) r))
    (fun _ ih => Tr.rec (.n none .e (ih .e)) (fun v l r _ _ => .n v l (ih r))) p t

/-! ### Values -/
inductive V where
  | int (k : IntKind) (n : Int)
  | bool (b : Bool)
  | str (s : List Nat)
  | nilp
  | ptr (b : Bp) (o : Nat)
  | nils
  | sl (b : Bp) (o n c : Nat)
  | sg (b : Bp) (o n k : Nat)
  | nilm
  | map (b : Bp)
  | nilf
  | fn (f : FuncId) (caps : List V)
  | agg (l : List V)
  | tup (l : List V)
  /-- A slice of what was there ahead of the run: to be read alone; and a pointer thither. -/
  | ro (r o c : Nat) (es : List V) (z : Nat)
  | rp (r o : Nat) (l : List V)
inductive Bk where
  | cells (es : List V) (z : Nat)
  | grow (es : List V) (z : Nat)
  | map (l : List (Int × V)) (clock : Nat)
  | dead
structure Hp where
  m : Tr Bk
  nx : Bp
  /-- How often what stood there was turned, block by block. -/
  w : Tr Nat
/-- Registers; and what the package's variables hold. -/
structure Rg where
  t : Tr V
  g : Nat → Option (List V)
noncomputable def Rg.get (rg : Rg) (p : Bp) : Option V := rg.t.get p
noncomputable def Rg.put (rg : Rg) (p : Bp) (v : V) : Rg := ⟨rg.t.put p v, rg.g⟩
def undV : V := .tup []

/-! ### Lists, for the kernel -/
noncomputable def nth? {α : Type} (l : List α) (i : Nat) : Option α :=
  List.rec (motive := fun _ => Nat → Option α) (fun _ => none) (fun a _ ih i => Nat.rec (some a) (fun i _ => ih i) i) l i
noncomputable def takeN {α : Type} (n : Nat) (l : List α) : List α :=
  Nat.rec (motive := fun _ => List α → List α) (fun _ => []) (fun _ ih l => List.rec [] (fun a r _ => a :: ih r) l) n l
noncomputable def dropN {α : Type} (n : Nat) (l : List α) : List α :=
  Nat.rec (motive := fun _ => List α → List α) (fun l => l) (fun _ ih l => List.rec [] (fun _ r _ => ih r) l) n l
noncomputable def appL {α : Type} (l m : List α) : List α := List.rec m (fun a _ ih => a :: ih) l
/-- A number, reckoned at once. -/
noncomputable def frc {α : Type} (n : Nat) (k : Nat → α) : α := Nat.rec (k 0) (fun m _ => k (Nat.succ m)) n
noncomputable def lenL {α : Type} (l : List α) : Nat := List.rec (motive := fun _ => Nat → Nat) (fun n => n) (fun _ _ ih n => frc (Nat.succ n) ih) l 0
noncomputable def setL {α : Type} (l : List α) (i : Nat) (a : α) : List α :=
  List.rec (motive := fun _ => Nat → List α) (fun _ => []) (fun x r ih i => Nat.rec (a :: r) (fun i _ => x :: ih i) i) l i
noncomputable def repL {α : Type} (n : Nat) (a : α) : List α := Nat.rec [] (fun _ ih => a :: ih) n
noncomputable def catL {α : Type} (l : List (List α)) : List α := List.rec [] (fun a _ ih => appL a ih) l
/-- Cells a..a+length turned. -/
noncomputable def splL (l : List V) (o : Nat) (m : List V) : List V := appL (takeN o l) (appL m (dropN (Nat.add o (lenL m)) l))

/-! ### Numbers -/
def natW (k : IntKind) (n : Nat) : Int :=
  match k with
  | .u8 => .ofNat (Nat.mod n 256)
  | .u32 => .ofNat (Nat.mod n 4294967296)
  | .u64 => .ofNat (Nat.mod n 18446744073709551616)
  | .i64 => match Nat.ble n 9223372036854775807 with
    | true => .ofNat n
    | false => k.wrap (.ofNat n)
  | _ => k.wrap (.ofNat n)
def addI (k : IntKind) (a b : Int) : Int :=
  match a, b with
  | .ofNat m, .ofNat n => natW k (Nat.add m n)
  | a, b => k.wrap (a + b)
def subI (k : IntKind) (a b : Int) : Int :=
  match a, b with
  | .ofNat m, .ofNat n => match Nat.ble n m with
    | true => natW k (Nat.sub m n)
    | false => k.wrap (.ofNat m - .ofNat n)
  | a, b => k.wrap (a - b)
def mulI (k : IntKind) (a b : Int) : Int :=
  match a, b with
  | .ofNat m, .ofNat n => natW k (Nat.mul m n)
  | a, b => k.wrap (a * b)
def quoI (k : IntKind) (a b : Int) : Int :=
  match a, b with
  | .ofNat m, .ofNat n => natW k (Nat.div m n)
  | a, b => k.wrap (a.tdiv b)
def remI (a b : Int) : Int :=
  match a, b with
  | .ofNat m, .ofNat n => .ofNat (Nat.mod m n)
  | a, b => a.tmod b
def ltI (a b : Int) : Bool :=
  match a, b with
  | .ofNat m, .ofNat n => Nat.blt m n
  | .negSucc m, .negSucc n => Nat.blt n m
  | .negSucc _, .ofNat _ => true
  | .ofNat _, .negSucc _ => false
def leI (a b : Int) : Bool := !ltI b a
def eqI (a b : Int) : Bool :=
  match a, b with
  | .ofNat m, .ofNat n => Nat.beq m n
  | .negSucc m, .negSucc n => Nat.beq m n
  | _, _ => false
def shrI (k : IntKind) (a b : Int) : Int :=
  match a, b with
  | .ofNat m, .ofNat n => match Nat.ble n k.bits with
    | true => .ofNat (Nat.shiftRight m n)
    | false => shI false k (.ofNat m) (.ofNat n)
  | a, b => shI false k a b
def kNo (k : IntKind) : Nat := IntKind.casesOn k 0 1 2 3 4 5 6 7
def kbeq (a b : IntKind) : Bool := Nat.beq (kNo a) (kNo b)

/-! ### Operations -/
def lgW (op : BinOp) (m n W : Nat) (d : Int) : Int :=
  match op with
  | .and => .ofNat (Nat.mod (Nat.land m n) W)
  | .or => .ofNat (Nat.mod (Nat.lor m n) W)
  | .xor => .ofNat (Nat.mod (Nat.xor m n) W)
  | _ => d
def lgI (op : BinOp) (k : IntKind) (a b : Int) : Int :=
  match a, b with
  | .ofNat m, .ofNat n => match k with
    | .u8 => lgW op m n 256 (bitsI op k a b)
    | .u32 => lgW op m n 4294967296 (bitsI op k a b)
    | .u64 => lgW op m n 18446744073709551616 (bitsI op k a b)
    | k => bitsI op k a b
  | a, b => bitsI op k a b
/-! Equality: of numbers and strings at once; of parts by the leaves of their type. -/
noncomputable def strEq (a b : List Nat) : Bool :=
  List.rec (motive := fun _ => List Nat → Bool) (fun b => List.rec true (fun _ _ _ => false) b)
    (fun x _ ih b => List.rec false (fun y s _ => match Nat.beq x y with | true => ih s | false => false) b) a b
def boolEq (a b : Bool) : Bool := match a, b with | true, true => true | false, false => true | _, _ => false
inductive Lf where
  | i
  | b
  | s
noncomputable def leafEq (d : Lf) (x y : V) : Option Bool :=
  match d with
  | .i => match x, y with
    | .int k a, .int k' b => (match kbeq k k' with | true => some (eqI a b) | false => none)
    | _, _ => none
  | .b => match x, y with
    | .bool a, .bool b => some (boolEq a b)
    | _, _ => none
  | .s => match x, y with
    | .str a, .str b => some (strEq a b)
    | _, _ => none
noncomputable def allEq (ls : List Lf) : List V → List V → Option Bool :=
  List.rec (motive := fun _ => List V → List V → Option Bool) (fun a b => match a, b with | [], [] => some true | _, _ => none)
    (fun d _ ih a b => match a, b with
      | x :: a, y :: b => (match leafEq d x y with | some true => ih a b | some false => some false | none => none)
      | _, _ => none) ls
def repLf : Nat → List Lf → List Lf
  | 0, _ => []
  | n + 1, l => l ++ repLf n l
def lvs (P : Program) : Nat → TypeId → Option (List Lf)
  | 0, _ => none
  | n + 1, T => match P.underlying T with
    | some (.int _) => some [.i]
    | some .bool => some [.b]
    | some .string => some [.s]
    | some (.array m e) => (match lvs P n e with
      | some l => match szT P e with
        | some z => (match Nat.beq z l.length with | true => some (repLf m l) | false => none)
        | none => none
      | none => none)
    | some (.struct fs) => (match P.stoodInHeld T with
      | true => none
      | false => fs.toList.foldl (fun acc f => match acc, lvs P n f.type, szT P f.type with
        | some a, some l, some z => (match f.name == "_", Nat.beq f.offset a.length, Nat.beq z l.length with | false, true, true => some (a ++ l) | _, _, _ => none)
        | _, _, _ => none) (some []))
    | _ => none
noncomputable def aggEq (ls : List Lf) (a b : List V) : Option Bool := match Nat.beq (lenL ls) (lenL a) && Nat.beq (lenL ls) (lenL b) with
  | true => allEq ls a b
  | false => none
noncomputable def eqV (P : Program) (T : TypeId) (x y : V) : Option Bool :=
  match x with
  | .int k a => (match y with
    | .int k' b => (match kbeq k k' with | true => some (eqI a b) | false => none)
    | _ => none)
  | .str a => (match y with | .str b => some (strEq a b) | _ => none)
  | .agg a => (match y with
    | .agg b => (match P.eqGuardType P.depth T with
      | true => none
      | false => match P.underlying T with
        | some (.struct _) => (match lvs P 60 T with | some l => aggEq l a b | none => none)
        | some (.array _ _) => (match lvs P 60 T with | some l => aggEq l a b | none => none)
        | _ => none)
    | _ => none)
  | x => match P.underlying T with
    | some .bool => (match x, y with | .bool a, .bool b => some (boolEq a b) | _, _ => none)
    | some (.pointer _) => (match x, y with | .nilp, .nilp => some true | .nilp, .ptr .. => some false | .ptr .., .nilp => some false | .nilp, .rp .. => some false | .rp .., .nilp => some false | _, _ => none)
    | some (.slice _) => (match x, y with | .nils, .nils => some true | .nils, .sl .. => some false | .nils, .sg .. => some false | .sl .., .nils => some false | .sg .., .nils => some false | .nils, .ro .. => some false | .ro .., .nils => some false | _, _ => none)
    | some (.map _ _) => (match x, y with | .nilm, .nilm => some true | .nilm, .map _ => some false | .map _, .nilm => some false | _, _ => none)
    | some (.func _ _ _) => (match x, y with | .nilf, .nilf => some true | .nilf, .fn .. => some false | .fn .., .nilf => some false | _, _ => none)
    | _ => none
def shlI (k : IntKind) (a b : Int) : Int :=
  match a, b with
  | .ofNat m, .ofNat n => match Nat.ble n k.bits with
    | true => natW k (Nat.mul m (Nat.pow 2 n))
    | false => shI true k (.ofNat m) (.ofNat n)
  | a, b => shI true k a b
def intB (op : BinOp) (k : IntKind) (a b : Int) : Option V :=
  match op with
  | .add => some (.int k (addI k a b))
  | .sub => some (.int k (subI k a b))
  | .mul => some (.int k (mulI k a b))
  | .quo => match eqI b (.ofNat 0) with | true => none | false => some (.int k (quoI k a b))
  | .rem => match eqI b (.ofNat 0) with | true => none | false => some (.int k (remI a b))
  | .and => some (.int k (lgI .and k a b))
  | .or => some (.int k (lgI .or k a b))
  | .xor => some (.int k (lgI .xor k a b))
  | .andNot => some (.int k (lgI .andNot k a b))
  | .lss => some (.bool (ltI a b))
  | .leq => some (.bool (leI a b))
  | .gtr => some (.bool (ltI b a))
  | .geq => some (.bool (leI b a))
  | _ => none
noncomputable def bI3 (f : IntKind → Int → Int → Option V) (k : IntKind) (a : Int) (k' : IntKind) (b : Int) : Option V := Bool.rec none (f k a b) (kbeq k k')
noncomputable def bI2 (v : V) : (IntKind → Int → Int → Option V) → IntKind → Int → Option V :=
  V.casesOn v (fun k' b f k a => bI3 f k a k' b) (fun _ => fun _ _ _ => none) (fun _ => fun _ _ _ => none) (fun _ _ _ => none) (fun _ _ => fun _ _ _ => none) (fun _ _ _ => none) (fun _ _ _ _ => fun _ _ _ => none) (fun _ _ _ _ => fun _ _ _ => none) (fun _ _ _ => none) (fun _ => fun _ _ _ => none) (fun _ _ _ => none) (fun _ _ => fun _ _ _ => none) (fun _ => fun _ _ _ => none) (fun _ => fun _ _ _ => none) (fun _ _ _ _ _ => fun _ _ _ => none) (fun _ _ _ => fun _ _ _ => none)
noncomputable def bI1 (v : V) : (IntKind → Int → Int → Option V) → V → Option V :=
  V.casesOn v (fun k a f y => bI2 y f k a) (fun _ => fun _ _ => none) (fun _ => fun _ _ => none) (fun _ _ => none) (fun _ _ => fun _ _ => none) (fun _ _ => none) (fun _ _ _ _ => fun _ _ => none) (fun _ _ _ _ => fun _ _ => none) (fun _ _ => none) (fun _ => fun _ _ => none) (fun _ _ => none) (fun _ _ => fun _ _ => none) (fun _ => fun _ _ => none) (fun _ => fun _ _ => none) (fun _ _ _ _ _ => fun _ _ => none) (fun _ _ _ => fun _ _ => none)
noncomputable def bS2 (f : IntKind → Int → Int → Option V) (k : IntKind) (a : Int) (y : V) : Option V := match y with
  | .int _ b => Bool.rec (f k a b) none (ltI b (.ofNat 0))
  | _ => none
noncomputable def bS (f : IntKind → Int → Int → Option V) (x y : V) : Option V := match x with
  | .int k a => bS2 f k a y
  | _ => none
noncomputable def addStr (x y : V) : Option V := match x, y with
  | .str a, .str b => (match Nat.ble (Nat.add (lenL a) (lenL b)) 1000000 with | true => some (.str (appL a b)) | false => none)
  | _, _ => none
noncomputable def oI (k : IntKind) (n : Int) : Option V := some (.int k n)
noncomputable def oB (b : Bool) : Option V := some (.bool b)
noncomputable def bAdd (x y : V) : Option V := V.casesOn x (fun k a => bI2 y (fun k a b => oI k (addI k a b)) k a) (fun _ => none) (fun _ => addStr x y) none (fun _ _ => none) none (fun _ _ _ _ => none) (fun _ _ _ _ => none) none (fun _ => none) none (fun _ _ => none) (fun _ => none) (fun _ => none) (fun _ _ _ _ _ => none) (fun _ _ _ => none)
noncomputable def eqK (b : Option Bool) : Option V := Option.rec none oB b
noncomputable def neK (b : Option Bool) : Option V := Option.rec none (fun b => oB (Bool.not b)) b
noncomputable def binV (P : Program) (op : BinOp) (T : TypeId) (x y : V) : Option V :=
  BinOp.casesOn (motive := fun _ => Program → TypeId → V → V → Option V) op
    (fun _ _ => bAdd)
    (fun _ _ x y => bI1 x (fun k a b => oI k (subI k a b)) y)
    (fun _ _ x y => bI1 x (fun k a b => oI k (mulI k a b)) y)
    (fun _ _ x y => bI1 x (fun k a b => Bool.rec (oI k (quoI k a b)) none (eqI b (.ofNat 0))) y)
    (fun _ _ x y => bI1 x (fun k a b => Bool.rec (oI k (remI a b)) none (eqI b (.ofNat 0))) y)
    (fun _ _ x y => bI1 x (fun k a b => oI k (lgI .and k a b)) y)
    (fun _ _ x y => bI1 x (fun k a b => oI k (lgI .or k a b)) y)
    (fun _ _ x y => bI1 x (fun k a b => oI k (lgI .xor k a b)) y)
    (fun _ _ x y => bS (fun k a b => oI k (shlI k a b)) x y)
    (fun _ _ x y => bS (fun k a b => oI k (shrI k a b)) x y)
    (fun _ _ x y => bI1 x (fun k a b => oI k (lgI .andNot k a b)) y)
    (fun P T x y => eqK (eqV P T x y))
    (fun P T x y => neK (eqV P T x y))
    (fun _ _ x y => bI1 x (fun _ a b => oB (ltI a b)) y)
    (fun _ _ x y => bI1 x (fun _ a b => oB (leI a b)) y)
    (fun _ _ x y => bI1 x (fun _ a b => oB (ltI b a)) y)
    (fun _ _ x y => bI1 x (fun _ a b => oB (leI b a)) y) P T x y
noncomputable def unV (op : UnOp) (x : V) : Option V :=
  match op, x with
  | .not, .bool b => some (.bool (Bool.not b))
  | .neg, .int k a => some (.int k (subI k (.ofNat 0) a))
  | _, _ => none

/-! ### Constants and operands -/
noncomputable def absC (v : Value) : Option V :=
  match v with
  | .int k n => some (.int k n)
  | .bool b => some (.bool b)
  | .string s => some (.str (s.data.toList.map UInt8.toNat))
  | .pointer none => some .nilp
  | .slice none 0 0 => some .nils
  | .map none => some .nilm
  | .nilFunc => some .nilf
  | _ => none
noncomputable def absL (l : List Value) : Option (List V) :=
  List.rec (some []) (fun c _ ih => match absC c with | some v => (match ih with | some vs => some (v :: vs) | none => none) | none => none) l
noncomputable def absV (v : Value) : Option V :=
  match v with
  | .agg cs => match absL cs.toList with | some l => some (.agg l) | none => none
  | v => absC v
def noTup (v : V) : Bool := match v with | .tup _ => false | _ => true
noncomputable def opV (rg : Rg) (x : Operand) : Option V :=
  match x with
  | .tmp t => some (match rg.get (bp t) with | some v => v | none => undV)
  | .const v => absV v
  | .func f => some (.fn f [])
  | .global n => match rg.g n with | some l => some (.rp n 0 l) | none => none
noncomputable def opVs (rg : Rg) (l : List Operand) : Option (List V) :=
  List.rec (some []) (fun x _ ih => match opV rg x with | some v => (match ih with | some vs => some (v :: vs) | none => none) | none => none) l

/-! ### Memory -/
def celV (v : V) : List V := match v with | .agg l => l | v => [v]
noncomputable def cats (es : List V) : List V := List.rec [] (fun a _ ih => appL (celV a) ih) es
noncomputable def Hp.blk (h : Hp) (b : Bp) : Option Bk := h.m.get b
noncomputable def newB (h : Hp) (k : Bk) : Hp := ⟨h.m.put h.nx k, h.nx.succ, h.w⟩
noncomputable def stamp (h : Hp) (b : Bp) : Nat := match h.w.get b with | some n => n | none => 0
noncomputable def setB (h : Hp) (b : Bp) (k : Bk) : Hp := frc (Nat.succ (stamp h b)) fun w => ⟨h.m.put b k, h.nx, h.w.put b w⟩
/-- Read: of parts or not, n cells from o on. -/
noncomputable def rdCells (ag : Bool) (n : Nat) (es : List V) (z o : Nat) : Option V :=
  match nth? es (Nat.div o z) with
  | none => none
  | some e =>
    match ag with
    | false => match e with
      | .agg l => nth? l (Nat.mod o z)
      | v => match Nat.mod o z with | 0 => some v | _ => none
    | true => match Nat.beq n z with
      | true => (match Nat.mod o z with | 0 => some (.agg (celV e)) | _ => none)
      | false => match Nat.blt n z with
        | true => match Nat.ble (Nat.add (Nat.mod o z) n) z with
          | true => some (.agg (takeN n (dropN (Nat.mod o z) (celV e))))
          | false => none
        | false => match Nat.beq z 1 with
          | true => (match Nat.ble (Nat.add o n) (lenL es) with
            | true => some (.agg (cats (takeN n (dropN o es))))
            | false => none)
          | false => none
noncomputable def rdB (ag : Bool) (n : Nat) (h : Hp) (b : Bp) (o : Nat) : Option V :=
  match h.blk b with
  | some (.cells es z) => rdCells ag n es z o
  | some (.grow es z) => rdCells ag n es z o
  | _ => none
/-- The cells of a value put in their place. -/
noncomputable def put1 (l : List V) (r : Nat) (v : V) : List V := match v with
  | .agg m => splL l r m
  | v => setL l r v
noncomputable def wrCells (es : List V) (z o : Nat) (v : V) : Option (List V) :=
  match Nat.blt (Nat.div o z) (lenL es) with
  | false => none
  | true =>
    match Nat.beq (lenL (celV v)) z with
    | true => (match Nat.mod o z with
      | 0 => some (setL es (Nat.div o z) v)
      | _ => none)
    | false => match nth? es (Nat.div o z) with
      | some (.agg l) => (match Nat.ble (Nat.add (Nat.mod o z) (lenL (celV v))) z with
        | true => some (setL es (Nat.div o z) (.agg (put1 l (Nat.mod o z) v)))
        | false => none)
      | _ => match Nat.beq z 1 with
        | true => (match Nat.ble (Nat.add o (lenL (celV v))) (lenL es) with
          | true => some (splL es o (celV v))
          | false => none)
        | false => none
noncomputable def wrB (n : Nat) (h : Hp) (b : Bp) (o : Nat) (v : V) : Option Hp :=
  match (match Nat.beq (lenL (celV v)) n with | true => noTup v | false => false) with
  | false => none
  | true =>
    match h.blk b with
    | some (.cells es z) => (match wrCells es z o v with | some es' => some (setB h b (.cells es' z)) | none => none)
    | some (.grow es z) => (match wrCells es z o v with | some es' => some (setB h b (.grow es' z)) | none => none)
    | _ => none

/-! ### Types -/
/-- The zero of a type. -/
noncomputable def zeroV (P : Program) (T : TypeId) : Option V :=
  match P.info? T with
  | some i => match i.zero with
    | some z => absV z
    | none => none
  | none => none
def sliceE (P : Program) (T : TypeId) : Option (TypeId × Nat) :=
  match P.underlying T with
  | some (.slice e) => match P.info? e with
    | some i => some (e, i.size)
    | none => none
  | _ => none
/-- Where the parts of a type lie. -/
def places (P : Program) (T : TypeId) : Option (List (Nat × Nat)) :=
  match P.underlying T with
  | some (.struct fs) => fs.toList.mapM fun f => (szT P f.type).map fun s => (f.offset, s)
  | some (.array n e) => (szT P e).map fun s => (List.range n).map fun i => (i * s, s)
  | _ => none
def allLe (m : Nat) : List (Nat × Nat) → Bool
  | [] => true
  | p :: r => Nat.ble (p.1 + p.2) m && allLe m r
/-- A type's zero, and its parts' places: these lie within. -/
noncomputable def bldT (P : Program) (T : TypeId) : Option (List V × List (Nat × Nat)) :=
  match zeroV P T, places P T with
  | some (.agg z), some pl => (match allLe (lenL z) pl with | true => some (z, pl) | false => none)
  | _, _ => none
noncomputable def fillV (pl : List (Nat × Nat)) (cs : List V) (ps : List (Nat × V)) : Option (List V) :=
  List.rec (motive := fun _ => List V → Option (List V)) (fun cs => some cs)
    (fun p _ ih cs => match nth? pl p.1 with
      | none => none
      | some (o, s) => match Nat.beq (lenL (celV p.2)) s && noTup p.2 with
        | true => ih (splL cs o (celV p.2))
        | false => none) ps cs
noncomputable def partsV (rg : Rg) (ps : List (Nat × Operand)) : Option (List (Nat × V)) :=
  List.rec (some []) (fun p _ ih => match opV rg p.2 with | some v => (match ih with | some vs => some ((p.1, v) :: vs) | none => none) | none => none) ps
def bnd (v : Option V) (d m : Nat) : Option Nat :=
  match v with
  | none => some d
  | some (.int _ (.ofNat n)) => match Nat.ble n m with | true => some n | false => none
  | _ => none
noncomputable def optV (rg : Rg) (x : Option Operand) : Option (Option V) :=
  match x with
  | none => some none
  | some x => match opV rg x with | some v => some (some v) | none => none
noncomputable def u8V (b : Nat) : V := .int .u8 (.ofNat b)
noncomputable def mapL {α β : Type} (f : α → β) (l : List α) : List β := List.rec [] (fun a _ ih => f a :: ih) l
/-- n of a list's elements, from o on. -/
noncomputable def cutN (o n : Nat) (es : List V) : Option (List V) := match Nat.ble (Nat.add o n) (lenL es) with
  | true => some (takeN n (dropN o es))
  | false => none
/-- n elements of z cells, from cell o on, of a block of elements of z' cells. -/
noncomputable def elsB (es : List V) (z' z o n : Nat) : Option (List V) := match Nat.beq z z' with
  | true => match Nat.mod o z with
    | 0 => cutN (Nat.div o z) n es
    | _ => none
  | false => match Nat.beq z 1 with
    | true => match nth? es (Nat.div o z') with
      | some (.agg l) => cutN (Nat.mod o z') n l
      | _ => none
    | false => none
noncomputable def elsH (h : Hp) (b : Bp) (z o n : Nat) : Option (List V) := match h.blk b with
  | some (.cells es z') => elsB es z' z o n
  | some (.grow es z') => elsB es z' z o n
  | _ => none
/-- Elements of a slice (or bytes of a string). -/
noncomputable def elems (h : Hp) (x : V) (z : Nat) : Option (List V) := match x with
  | .nils => some []
  | .str s => match Nat.beq z 1 with | true => some (mapL u8V s) | false => none
  | .sl b o n _ => elsH h b z o n
  | .sg b o n _ => elsH h b z o n
  | .ro _ _ _ es z' => match Nat.beq z z' with | true => some es | false => none
  | _ => none
noncomputable def lenV (x : V) : Option Nat :=
  match x with
  | .nils => some 0
  | .str s => some (lenL s)
  | .sl _ _ n _ => some n
  | .sg _ _ n _ => some n
  | .ro _ _ _ es _ => some (lenL es)
  | _ => none
/-- Elements put in their places, from cell o on. -/
noncomputable def putB (es : List V) (z' z o : Nat) (new : List V) : Option (List V) := match Nat.beq z z' with
  | true => match Nat.mod o z with
    | 0 => match Nat.ble (Nat.add (Nat.div o z) (lenL new)) (lenL es) with
      | true => some (splL es (Nat.div o z) new)
      | false => none
    | _ => none
  | false => match Nat.beq z 1 with
    | true => match nth? es (Nat.div o z') with
      | some (.agg l) => (match Nat.ble (Nat.add (Nat.mod o z') (lenL new)) (lenL l) with
        | true => some (setL es (Nat.div o z') (.agg (splL l (Nat.mod o z') (cats new))))
        | false => none)
      | _ => none
    | false => none
noncomputable def putEls (h : Hp) (b : Bp) (o z : Nat) (new : List V) : Option Hp := match h.blk b with
  | some (.cells es z') => (match putB es z' z o new with | some es' => some (setB h b (.cells es' z')) | none => none)
  | some (.grow es z') => (match putB es z' z o new with | some es' => some (setB h b (.grow es' z')) | none => none)
  | _ => none
/-- What append asks of its types: an element's cells and bytes. -/
def appE (P : Program) (T : TypeId) (X : Option TypeId) : Option (Nat × Nat) :=
  match (match X with | none => true | some t => match P.underlying t with | some (.int _) => false | some _ => true | none => false) with
  | false => none
  | true => match P.underlying T with
    | some (.slice e) => match P.info? e with
      | some i => match i.zero with
        | some zv => match Nat.beq zv.cells.size i.size && zv.cells.toList.all scalarV && Nat.blt 0 i.size with
          | true => some (i.size, i.bytes)
          | false => none
        | none => none
      | none => none
    | _ => none
/-- So many bytes at most are asked for. -/
def roomB (n bytes : Nat) : Bool := Nat.ble (Nat.mul n bytes) 70368744177664 && Nat.ble n 70368744177664
noncomputable def appK (z bytes : Nat) (s x : V) (h : Hp) : Option (V × Hp) :=
    match elems h x z with
    | none => none
    | some new =>
      match lenL new with
      | 0 => match s with
        | .nils => some (s, h)
        | .sl _ _ n c => (match Nat.ble n c with | true => some (s, h) | false => none)
        | .sg .. => some (s, h)
        | _ => none
      | m => match (match lenV s with | some n => roomB (Nat.add n m) bytes | none => false) with
       | false => none
       | true =>
        match s with
        | .nils => some (.sg h.nx 0 m 0, newB h (.grow new z))
        | .sl b o n c => match Nat.ble (Nat.add n m) c with
          | true => match putEls h b (Nat.add o (Nat.mul n z)) z new with
            | some h' => some (.sl b o (Nat.add n m) c, h')
            | none => none
          | false => match elems h s z with
            | some old => some (.sg h.nx 0 (Nat.add n m) 0, newB h (.grow (appL old new) z))
            | none => none
        | .sg b o n k => match h.blk b with
          | some (.grow es z') => match Nat.beq z z' with
            | false => none
            | true => match Nat.beq o (Nat.mul k z) with
              | false => none
              | true => match Nat.beq (Nat.add k n) (lenL es), k with
                | true, 0 => some (.sg h.nx 0 (Nat.add n m) 0, newB (setB h b .dead) (.grow (appL es new) z))
                | _, _ => match Nat.ble (Nat.add (Nat.add k n) m) (lenL es) with
                  | true => some (.sg b o (Nat.add n m) k, (setB h b (.grow (splL es (Nat.add k n) new) z)))
                  | false => none
          | _ => none
        | _ => none
noncomputable def appV (P : Program) (T : TypeId) (X : Option TypeId) (s x : V) (h : Hp) : Option (V × Hp) :=
  match appE P T X with
  | none => none
  | some (z, bytes) => appK z bytes s x h

noncomputable def mapGet (l : List (Int × V)) (k : Int) : Option V :=
  List.rec none (fun p _ ih => match eqI p.1 k with | true => some p.2 | false => ih) l
noncomputable def mapSet (l : List (Int × V)) (k : Int) (v : V) : List (Int × V) :=
  List.rec [(k, v)] (fun p r ih => match eqI p.1 k with | true => (p.1, v) :: r | false => p :: ih) l
noncomputable def mapDel (l : List (Int × V)) (k : Int) : List (Int × V) :=
  List.rec [] (fun p r ih => match eqI p.1 k with | true => r | false => p :: ih) l

/-! ### One operation. The kernel copies what it unfolds: so each step is a small text of its own, and what is asked stands first. -/
def isInt (P : Program) (T : TypeId) : Option IntKind := match P.underlying T with | some (.int k) => some k | _ => none
abbrev Res := Option (V × Hp)
abbrev Cl := FuncId → List V → Hp → Res
abbrev St1 := Cl → Rg → Hp → Res
noncomputable def pV (r : Option V) (h : Hp) : Res := Option.rec none (fun v => some (v, h)) r
noncomputable def pH (r : Option Hp) : Res := Option.rec none (fun h => some (undV, h)) r
def noS : St1 := fun _ _ _ => none
noncomputable def with1 (r : Option V) (k : V → Res) : Res := Option.rec none k r
noncomputable def with2 (r s : Option V) (k : V → V → Res) : Res := Option.rec none (fun v => Option.rec none (fun u => k v u) s) r
noncomputable def asPtr (v : V) : (Bp → Nat → Res) → Res :=
  V.casesOn v (fun _ _ => fun _ => none) (fun _ => fun _ => none) (fun _ => fun _ => none) (fun _ => none) (fun b o k => k b o) (fun _ => none) (fun _ _ _ _ => fun _ => none) (fun _ _ _ _ => fun _ => none) (fun _ => none) (fun _ => fun _ => none) (fun _ => none) (fun _ _ => fun _ => none) (fun _ => fun _ => none) (fun _ => fun _ => none) (fun _ _ _ _ _ => fun _ => none) (fun _ _ _ => fun _ => none)
noncomputable def asPR (v : V) : (Bp → Nat → Res) → (Nat → Nat → List V → Res) → Res :=
  V.casesOn v (fun _ _ => fun _ _ => none) (fun _ => fun _ _ => none) (fun _ => fun _ _ => none) (fun _ _ => none) (fun b o k _ => k b o) (fun _ _ => none) (fun _ _ _ _ => fun _ _ => none) (fun _ _ _ _ => fun _ _ => none) (fun _ _ => none) (fun _ => fun _ _ => none) (fun _ _ => none) (fun _ _ => fun _ _ => none) (fun _ => fun _ _ => none) (fun _ => fun _ _ => none) (fun _ _ _ _ _ => fun _ _ => none) (fun r o l _ k => k r o l)
def natK (n : Int) : (Nat → Res) → Res := Int.casesOn n (fun n k => k n) (fun _ _ => none)
noncomputable def asNat (v : V) : (Nat → Res) → Res :=
  V.casesOn v (fun _ n => natK n) (fun _ => fun _ => none) (fun _ => fun _ => none) (fun _ => none) (fun _ _ => fun _ => none) (fun _ => none) (fun _ _ _ _ => fun _ => none) (fun _ _ _ _ => fun _ => none) (fun _ => none) (fun _ => fun _ => none) (fun _ => none) (fun _ _ => fun _ => none) (fun _ => fun _ => none) (fun _ => fun _ => none) (fun _ _ _ _ _ => fun _ => none) (fun _ _ _ => fun _ => none)
noncomputable def sMove (x : Operand) : St1 := fun _ rg h => pV (opV rg x) h
noncomputable def pickK (v : V) : Option V → Option V → Option V :=
  V.casesOn v (fun _ _ => fun _ _ => none) (fun c a b => Bool.rec b a c) (fun _ => fun _ _ => none) (fun _ _ => none) (fun _ _ => fun _ _ => none) (fun _ _ => none) (fun _ _ _ _ => fun _ _ => none) (fun _ _ _ _ => fun _ _ => none) (fun _ _ => none) (fun _ => fun _ _ => none) (fun _ _ => none) (fun _ _ => fun _ _ => none) (fun _ => fun _ _ => none) (fun _ => fun _ _ => none) (fun _ _ _ _ _ => fun _ _ => none) (fun _ _ _ => fun _ _ => none)
noncomputable def sPick (c a b : Operand) : St1 := fun _ rg h => with1 (opV rg c) fun c => pV (pickK c (opV rg a) (opV rg b)) h
noncomputable def sBin (P : Program) (op : BinOp) (T : TypeId) (x y : Operand) : St1 := fun _ rg h => with2 (opV rg x) (opV rg y) fun x y => pV (binV P op T x y) h
noncomputable def sUn (op : UnOp) (x : Operand) : St1 := fun _ rg h => with1 (opV rg x) fun x => pV (unV op x) h
noncomputable def rdRp (ag : Bool) (n : Nat) (l : List V) : Option V := match ag with
  | false => nth? l 0
  | true => match Nat.ble n (lenL l) with | true => some (.agg (takeN n l)) | false => none
noncomputable def ldK (s : Option (Bool × Nat)) (v : V) (h : Hp) : Res := asPR v (fun b o => match s with
  | some (ag, n) => pV (rdB ag n h b o) h
  | none => none) fun _ _ l => match s with
  | some (ag, n) => pV (rdRp ag n l) h
  | none => none
noncomputable def sLoad (P : Program) (T : TypeId) (x : Operand) : St1 := fun _ rg h => with1 (opV rg x) fun v => ldK (shp P T) v h
noncomputable def stK' (s : Option Nat) (v u : V) (h : Hp) : Res := asPtr v fun b o => match s with
  | some n => pH (wrB n h b o u)
  | none => none
noncomputable def sStore (P : Program) (T : TypeId) (x y : Operand) : St1 := fun _ rg h => with2 (opV rg x) (opV rg y) fun v u => stK' (szT P T) v u h
noncomputable def newV (v : V) (h : Hp) : Res := some (.ptr h.nx 0, newB h (.cells [v] (lenL (celV v))))
noncomputable def sAlloc (P : Program) (T : TypeId) : St1 := fun _ _ h => with1 (zeroV P T) fun v => newV v h
noncomputable def boxK (v : V) (h : Hp) : Res := match noTup v with | true => newV v h | false => none
noncomputable def sBox (x : Operand) : St1 := fun _ rg h => with1 (opV rg x) fun v => boxK v h
noncomputable def bldK (s : Option (List V × List (Nat × Nat))) (ps : List (Nat × V)) (h : Hp) : Res := match s with
  | some (z, pl) => match fillV pl z ps with | some cs => some (.agg cs, h) | none => none
  | none => none
noncomputable def withP (r : Option (List (Nat × V))) (k : List (Nat × V) → Res) : Res := Option.rec none k r
noncomputable def sBuild (P : Program) (T : TypeId) (ps : List (Nat × Operand)) : St1 := fun _ rg h => withP (partsV rg ps) fun ps => bldK (bldT P T) ps h
/-- A slice type's element: its zero, cells, bytes. -/
noncomputable def elE (P : Program) (T : TypeId) : Option (V × Nat × Nat) := match P.underlying T with
  | some (.slice e) => match P.info? e with
    | some i => match zeroV P e with
      | some zv => (match Nat.beq (lenL (celV zv)) i.size with | true => some (zv, i.size, i.bytes) | false => none)
      | none => none
    | none => none
  | _ => none
noncomputable def bslF (z n : Nat) (ps : List (Nat × V)) : List V → Option (List V) :=
  List.rec (motive := fun _ => List V → Option (List V)) (fun es => some es) (fun p _ ih es => match Nat.beq (lenL (celV p.2)) z && Nat.blt p.1 n && noTup p.2 with
    | true => ih (setL es p.1 p.2)
    | false => none) ps
noncomputable def bslK (s : Option (V × Nat × Nat)) (n : Nat) (ps : List (Nat × V)) (h : Hp) : Res := match s with
  | some (zv, z, _) => match Nat.ble (Nat.mul n z) 16777216 with
    | true => match bslF z n ps (repL n zv) with
      | some es => some (.sl h.nx 0 n n, newB h (.cells es z))
      | none => none
    | false => none
  | none => none
noncomputable def sBsl (P : Program) (T : TypeId) (n : Nat) (ps : List (Nat × Operand)) : St1 := fun _ rg h => withP (partsV rg ps) fun ps => bslK (elE P T) n ps h
noncomputable def ncK (v : V) : Hp → Res :=
  V.casesOn v (fun _ _ => fun _ => none) (fun _ => fun _ => none) (fun _ => fun _ => none) (fun _ => none) (fun b o h => some (.ptr b o, h)) (fun _ => none) (fun _ _ _ _ => fun _ => none) (fun _ _ _ _ => fun _ => none) (fun _ => none) (fun _ => fun _ => none) (fun _ => none) (fun f c h => some (.fn f c, h)) (fun _ => fun _ => none) (fun _ => fun _ => none) (fun _ _ _ _ _ => fun _ => none) (fun r o l h => some (.rp r o l, h))
noncomputable def sNc (x : Operand) : St1 := fun _ rg h => with1 (opV rg x) fun v => ncK v h
noncomputable def sFa (P : Program) (T : TypeId) (x : Operand) (f : Nat) : St1 := match fi P T f with
  | some k => fun _ rg h => with1 (opV rg x) fun v => asPR v (fun b o => some (.ptr b (Nat.add o k), h)) fun r o l => some (.rp r (Nat.add o k) (dropN k l), h)
  | none => noS
noncomputable def fldK (s : Option (Nat × Bool × Nat)) (v : V) (h : Hp) : Res := match v with
  | .agg l => match s with
    | some (o, true, n) => some (.agg (takeN n (dropN o l)), h)
    | some (o, false, _) => pV (nth? l o) h
    | none => none
  | _ => none
noncomputable def sFld (P : Program) (T : TypeId) (x : Operand) (f : Nat) : St1 := fun _ rg h => with1 (opV rg x) fun v => fldK (fsh P T f) v h
noncomputable def ixGo (b : Bp) (o n z j : Nat) (h : Hp) : Res := Bool.rec none (some (.ptr b (Nat.add o (Nat.mul j z)), h)) (Nat.ble (Nat.succ j) n)
noncomputable def ixRp (r o : Nat) (l : List V) (n z j : Nat) (h : Hp) : Res := Bool.rec none (some (.rp r (Nat.add o (Nat.mul j z)) (dropN (Nat.mul j z) l), h)) (Nat.ble (Nat.succ j) n)
noncomputable def ixRo (r o : Nat) (es : List V) (z' z j : Nat) (h : Hp) : Res := match Nat.beq z z' with
  | true => match nth? es j with
    | some e => some (.rp r (Nat.add o (Nat.mul j z)) (celV e), h)
    | none => none
  | false => none
noncomputable def ixArr' (v : V) : Nat → Nat → Nat → Hp → Res :=
  V.casesOn v (fun _ _ => fun _ _ _ _ => none) (fun _ => fun _ _ _ _ => none) (fun _ => fun _ _ _ _ => none) (fun _ _ _ _ => none) (fun b o n z j h => ixGo b o n z j h) (fun _ _ _ _ => none) (fun _ _ _ _ => fun _ _ _ _ => none) (fun _ _ _ _ => fun _ _ _ _ => none) (fun _ _ _ _ => none) (fun _ => fun _ _ _ _ => none) (fun _ _ _ _ => none) (fun _ _ => fun _ _ _ _ => none) (fun _ => fun _ _ _ _ => none) (fun _ => fun _ _ _ _ => none) (fun _ _ _ _ _ => fun _ _ _ _ => none) (fun r o l n z j h => ixRp r o l n z j h)
noncomputable def ixArr (n z : Nat) (x : V) (j : Nat) (h : Hp) : Res := ixArr' x n z j h
noncomputable def ixSl' (v : V) : Nat → Nat → Hp → Res :=
  V.casesOn v (fun _ _ => fun _ _ _ => none) (fun _ => fun _ _ _ => none) (fun _ => fun _ _ _ => none) (fun _ _ _ => none) (fun _ _ => fun _ _ _ => none) (fun _ _ _ => none) (fun b o n _ z j h => ixGo b o n z j h) (fun b o n _ z j h => ixGo b o n z j h) (fun _ _ _ => none) (fun _ => fun _ _ _ => none) (fun _ _ _ => none) (fun _ _ => fun _ _ _ => none) (fun _ => fun _ _ _ => none) (fun _ => fun _ _ _ => none) (fun r o _ es z' z j h => ixRo r o es z' z j h) (fun _ _ _ => fun _ _ _ => none)
noncomputable def ixSl (z : Nat) (x : V) (j : Nat) (h : Hp) : Res := ixSl' x z j h
noncomputable def sIxa (P : Program) (T : TypeId) (x i : Operand) : St1 := match ixi P T with
  | some (some n, z) => fun _ rg h => with2 (opV rg x) (opV rg i) fun x i => asNat i fun j => ixArr n z x j h
  | some (none, z) => fun _ rg h => with2 (opV rg x) (opV rg i) fun x i => asNat i fun j => ixSl z x j h
  | none => noS
inductive IvK where
  | arr (n : Nat) (ag : Bool) (z : Nat)
  | str
  | no
def ivT (P : Program) (T : TypeId) : IvK := match P.underlying T with
  | some (.array n e) => match shp P e with
    | some (ag, z) => .arr n ag z
    | none => .no
  | some .string => .str
  | _ => .no
noncomputable def ixvA (n : Nat) (ag : Bool) (z : Nat) (l : List V) (j : Nat) (h : Hp) : Res := match Nat.blt j n with
  | true => match ag with
    | true => some (.agg (takeN z (dropN (Nat.mul j z) l)), h)
    | false => pV (nth? l (Nat.mul j z)) h
  | false => none
noncomputable def ixvV (k : IvK) (x : V) (j : Nat) (h : Hp) : Res := match k with
  | .arr n ag z => match x with
    | .agg l => ixvA n ag z l j h
    | _ => none
  | .str => match x with
    | .str s => (match nth? s j with | some c => some (.int .u8 (.ofNat c), h) | none => none)
    | _ => none
  | .no => none
noncomputable def sIxv (P : Program) (T : TypeId) (x i : Operand) : St1 := fun _ rg h => with2 (opV rg x) (opV rg i) fun x i => asNat i fun j => ixvV (ivT P T) x j h
noncomputable def extK (i : Nat) (v : V) (h : Hp) : Res := match v with
  | .tup l => pV (nth? l i) h
  | _ => none
noncomputable def sExt (x : Operand) (i : Nat) : St1 := fun _ rg h => with1 (opV rg x) fun v => extK i v h
/-- Bounds of a slice: from, to, and the room's end. -/
noncomputable def bnd2 (lo : Option V) (m : Nat) (k : Nat → Nat → Nat → Res) (hh : Option Nat) : Res := match hh with
  | some hh => match bnd lo 0 hh with
    | some l => k l hh m
    | none => none
  | none => none
noncomputable def bnds (lo hi mx : Option V) (n c : Nat) (k : Nat → Nat → Nat → Res) : Res := match mx with
  | none => bnd2 lo c k (bnd hi n c)
  | some mx => match hi with
    | none => none
    | some hi => match bnd (some mx) c c with
      | some m => bnd2 lo m k (bnd (some hi) n m)
      | none => none
def adv (o z l m : Nat) : Nat := match Nat.beq m l with | true => o | false => Nat.add o (Nat.mul l z)
inductive SlK where
  | str
  | arr (n z : Nat)
  | sl (z : Nat)
  | no
def slT (P : Program) (T : TypeId) : SlK := match P.underlying T with
  | some .string => .str
  | some (.array n e) => (match szT P e with | some z => .arr n z | none => .no)
  | some (.slice e) => (match szT P e with | some z => .sl z | none => .no)
  | _ => .no
noncomputable def slcStr (s : List Nat) (lo hi mx : Option V) (h : Hp) : Res := match mx with
  | none => bnds lo hi none (lenL s) (lenL s) fun l hh _ => some (.str (takeN (Nat.sub hh l) (dropN l s)), h)
  | some _ => none
noncomputable def slcPtr (n z : Nat) (b : Bp) (o : Nat) (lo hi mx : Option V) (h : Hp) : Res := bnds lo hi mx n n fun l hh m => some (.sl b (adv o z l m) (Nat.sub hh l) (Nat.sub m l), h)
noncomputable def slcSl (z : Nat) (b : Bp) (o n c : Nat) (lo hi mx : Option V) (h : Hp) : Res := match Nat.ble n c with
  | true => bnds lo hi mx n c fun l hh m => some (.sl b (adv o z l m) (Nat.sub hh l) (Nat.sub m l), h)
  | false => none
noncomputable def slcSg (z : Nat) (b : Bp) (o n k : Nat) (lo hi mx : Option V) (h : Hp) : Res := match mx with
  | none => bnds lo hi none n n fun l hh _ => some (.sg b (Nat.add o (Nat.mul l z)) (Nat.sub hh l) (Nat.add k l), h)
  | some _ => match n with
    | 0 => none
    | Nat.succ _ => bnds lo hi mx n n fun l hh m => some (.sl b (adv o z l m) (Nat.sub hh l) (Nat.sub m l), h)
noncomputable def slcRo (r o c : Nat) (es : List V) (z' z : Nat) (lo hi mx : Option V) (h : Hp) : Res := match Nat.beq z z', mx with
  | true, none => bnds lo hi none (lenL es) (lenL es) fun l hh _ => some (.ro r (adv o z l c) (Nat.sub c l) (takeN (Nat.sub hh l) (dropN l es)) z, h)
  | _, _ => none
noncomputable def slcSlk (z : Nat) (x : V) (lo hi mx : Option V) (h : Hp) : Res := match x with
  | .nils => bnds lo hi mx 0 0 fun _ _ _ => some (.nils, h)
  | .sl b o n c => slcSl z b o n c lo hi mx h
  | .sg b o n k => slcSg z b o n k lo hi mx h
  | .ro r o c es z' => slcRo r o c es z' z lo hi mx h
  | _ => none
noncomputable def slcV (s : SlK) (x : V) (lo hi mx : Option V) (h : Hp) : Res := match s with
  | .str => (match x with | .str s => slcStr s lo hi mx h | _ => none)
  | .arr n z => (match x with | .ptr b o => slcPtr n z b o lo hi mx h | _ => none)
  | .sl z => slcSlk z x lo hi mx h
  | .no => none
noncomputable def sSlc (P : Program) (T : TypeId) (x : Operand) (lo hi mx : Option Operand) : St1 := fun _ rg h => match opV rg x, optV rg lo, optV rg hi, optV rg mx with
  | some x, some lo, some hi, some mx => slcV (slT P T) x lo hi mx h
  | _, _, _, _ => none
noncomputable def sMkf (fn : Fn) (first cap : List Operand) : St1 := match first, fn with
  | [], .func f => fun _ rg h => match opVs rg cap with | some l => some (.fn f l, h) | none => none
  | _, _ => noS
noncomputable def mksK (s : Option (V × Nat × Nat)) (l c : Nat) (h : Hp) : Res := match s with
  | some (zv, z, bytes) => match Nat.ble l c && roomB c bytes with
    | true => some (.sl h.nx 0 l c, newB h (.cells (repL c zv) z))
    | false => none
  | none => none
noncomputable def sMks (P : Program) (T : TypeId) (l c : Operand) : St1 := fun _ rg h => with2 (opV rg l) (opV rg c) fun l c => asNat l fun l => asNat c fun c => mksK (elE P T) l c h
noncomputable def byteV (e : V) : Option Nat := match e with | .int .u8 (.ofNat n) => some (Nat.mod n 256) | _ => none
noncomputable def bytesV (l : List V) : Option (List Nat) := List.rec (some []) (fun a _ ih => match byteV a with | some b => (match ih with | some r => some (b :: r) | none => none) | none => none) l
def cvtI (k : IntKind) (n : Int) : Int := match n with | .ofNat m => natW k m | n => k.wrap n
inductive CvK where
  | int (k : IntKind)
  | str
  | bytes
  | text
  | mark
  | no
def isU8 (P : Program) (e : TypeId) : Bool := match P.underlying e with | some (.int .u8) => true | _ => false
def cvT (P : Program) (s d : TypeId) : CvK := match P.underlying s with
  | none => .no
  | some S => match P.underlying d with
    | some (.int k) => .int k
    | some .string => (match S with
      | .slice e => (match isU8 P e with | true => .text | false => .no)
      | .string => .str
      | _ => .no)
    | some (.slice e) => (match S with
      | .string => (match isU8 P e with | true => .bytes | false => .no)
      | .slice _ => (match isU8 P e && Nat.beq s d with | true => .mark | false => .no)
      | _ => .no)
    | _ => .no
noncomputable def lenD (x : V) : Option Nat := match x with
  | .nils => some 0
  | .sl _ _ n _ => some n
  | .sg _ _ n _ => some n
  | .ro _ _ _ es _ => some (lenL es)
  | _ => none
noncomputable def rowB (h : Hp) (b : Bp) : Bool := match h.blk b with
  | some (.cells ..) => true
  | some (.grow ..) => true
  | _ => false
noncomputable def convV (c : CvK) (x : V) (h : Hp) : Res := match c with
  | .int k => (match x with | .int _ n => some (.int k (cvtI k n), h) | _ => none)
  | .str => (match x with | .str b => some (.str b, h) | _ => none)
  | .bytes => (match x with | .str b => some (.sg h.nx 0 (lenL b) 0, newB h (.grow (mapL u8V b) 1)) | _ => none)
  | .text => (match lenD x with
    | some _ => (match elems h x 1 with | some es => (match bytesV es with | some b => some (.str b, h) | none => none) | none => none)
    | none => none)
  | .mark => (match x with
    | .sl b _ _ _ => (match rowB h b with | true => some (x, h) | false => none)
    | .sg b _ _ _ => (match rowB h b with | true => some (x, h) | false => none)
    | _ => none)
  | .no => none
noncomputable def sCvt (P : Program) (s d : TypeId) (x : Operand) : St1 := fun _ rg h => with1 (opV rg x) fun x => convV (cvT P s d) x h
noncomputable def sMkm (r : Option Operand) : St1 := match r with
  | none => fun _ _ h => some (.map h.nx, newB h (.map [] 0))
  | some _ => noS
noncomputable def mapOf (x : V) (h : Hp) : Option (List (Int × V)) := match x with
  | .nilm => some []
  | .map b => match h.blk b with | some (.map l _) => some l | _ => none
  | _ => none
/-- A map type with keys of kind int: its element's zero. -/
noncomputable def mapT (P : Program) (T : TypeId) : Option V := match P.underlying T with
  | some (.map k e) => (match P.underlying k with | some (.int .i64) => zeroV P e | _ => none)
  | _ => none
noncomputable def i64K (v : V) : (Int → Res) → Res := match v with
  | .int .i64 n => fun k => k n
  | _ => fun _ => none
noncomputable def lkpK (z : V) (l : List (Int × V)) (k : Int) (ok : Bool) (h : Hp) : Res := match mapGet l k, ok with
  | some v, true => some (.tup [v, .bool true], h)
  | none, true => some (.tup [z, .bool false], h)
  | some v, false => some (v, h)
  | none, false => some (z, h)
noncomputable def lkpV (z : Option V) (x i : V) (ok : Bool) (h : Hp) : Res := i64K i fun k => match z, mapOf x h with
    | some z, some l => lkpK z l k ok h
    | _, _ => none
noncomputable def sLkp (P : Program) (T : TypeId) (x i : Operand) (ok : Bool) : St1 := fun _ rg h => with2 (opV rg x) (opV rg i) fun x i => lkpV (mapT P T) x i ok h
noncomputable def updK (s : Option V) (b : Bp) (k : Int) (v : V) (h : Hp) : Res := match s, h.blk b with
  | some _, some (.map l c) => some (undV, (setB h b (.map (mapSet l k v) c)))
  | _, _ => none
noncomputable def delK (s : Option V) (b : Bp) (k : Int) (h : Hp) : Res := match s, h.blk b with
  | some _, some (.map l c) => some (undV, (setB h b (.map (mapDel l k) c)))
  | _, _ => none
noncomputable def asMap (v : V) : (Bp → Res) → Res := match v with
  | .map b => fun k => k b
  | _ => fun _ => none
noncomputable def asInt' (v : V) : (IntKind → Int → Res) → Res := match v with
  | .int k n => fun f => f k n
  | _ => fun _ => none
noncomputable def sUpd (P : Program) (T : TypeId) (m k x : Operand) : St1 := fun _ rg h => with2 (opV rg m) (opV rg k) fun m k => asMap m fun b => i64K k fun k => with1 (opV rg x) fun v => updK (mapT P T) b k v h
def arrLen (P : Program) (T : TypeId) : Option Nat := match P.underlying T with | some (.array n _) => some n | _ => none
/-- Room asked for must be there, and some of it. -/
noncomputable def a2pK (n : Option Nat) (v : V) (h : Hp) : Res := match n with
  | some (Nat.succ n) => match v with
    | .sl b o m _ => match Nat.ble (Nat.succ n) m with | true => some (.ptr b o, h) | false => none
    | .sg b o m _ => match Nat.ble (Nat.succ n) m with | true => some (.ptr b o, h) | false => none
    | .ro r o _ es _ => match Nat.ble (Nat.succ n) (lenL es) with | true => some (.rp r o (cats es), h) | false => none
    | _ => none
  | _ => none
noncomputable def sA2p (P : Program) (T : TypeId) (x : Operand) : St1 := fun _ rg h => with1 (opV rg x) fun v => a2pK (arrLen P T) v h
noncomputable def goV (n : Nat) (h : Hp) : Res := some (.int .i64 (.ofNat n), h)
inductive LnK where
  | str
  | arr (n : Nat)
  | sl
  | map
  | no
def lnT (P : Program) (T : TypeId) : LnK := match P.underlying T with
  | some .string => .str
  | some (.array n _) => .arr n
  | some (.pointer t) => (match P.underlying t with | some (.array n _) => .arr n | _ => .no)
  | some (.slice _) => .sl
  | some (.map _ _) => .map
  | _ => .no
noncomputable def lenSl (x : V) (h : Hp) : Res := match x with
  | .nils => goV 0 h
  | .sl _ _ n _ => goV n h
  | .sg _ _ n _ => goV n h
  | .ro _ _ _ es _ => goV (lenL es) h
  | _ => none
noncomputable def lenK (k : LnK) (x : V) (h : Hp) : Res := match k with
  | .sl => lenSl x h
  | .str => (match x with | .str s => goV (lenL s) h | _ => none)
  | .arr n => goV n h
  | .map => (match mapOf x h with | some l => goV (lenL l) h | none => none)
  | .no => none
def minN (a b : Nat) : Nat := match Nat.ble b a with | true => b | false => a
noncomputable def cpyTo (d : V) (z n : Nat) (es : List V) (h : Hp) : Option Hp := match d with
  | .sl b o _ _ => putEls h b o z (takeN n es)
  | .sg b o _ _ => putEls h b o z (takeN n es)
  | _ => none
noncomputable def cpyN (d : V) (z n : Nat) (es : List V) (h : Hp) : Res := match n with
  | 0 => goV 0 h
  | n => match cpyTo d z n es h with | some h => goV n h | none => none
noncomputable def cpyK (P : Program) (T : TypeId) (d x : V) (h : Hp) : Res := match sliceE P T with
  | some (_, z) => match lenD d, lenV x, elems h x z with
    | some nd, some nx, some es => cpyN d z (minN nx nd) es h
    | _, _, _ => none
  | none => none
noncomputable def minK (x y : V) (h : Hp) : Res := asInt' x fun k a => asInt' y fun _ b => some (.int k (match ltI b a with | true => b | false => a), h)
noncomputable def maxK (x y : V) (h : Hp) : Res := asInt' x fun k a => asInt' y fun _ b => some (.int k (match ltI a b with | true => b | false => a), h)
noncomputable def delV (s : Option V) (m k : V) (h : Hp) : Res := asMap m fun b => i64K k fun k => delK s b k h
def one? (l : List V) : (V → Res) → Res := match l with | [x] => fun k => k x | _ => fun _ => none
def two? (l : List V) : (V → V → Res) → Res := match l with | [x, y] => fun k => k x y | _ => fun _ => none
noncomputable def arg0 (ts : Array TypeId) (k : TypeId → Res) : Res := match ts[0]? with | some T => k T | none => none
noncomputable def biV (P : Program) (b : Builtin) (ts : Array TypeId) (l : List V) (h : Hp) : Res := match b with
  | .len => arg0 ts fun T => one? l fun x => lenK (lnT P T) x h
  | .append => arg0 ts fun T => two? l fun s x => appV P T ts[1]? s x h
  | .copy => arg0 ts fun T => two? l fun d x => cpyK P T d x h
  | .delete => arg0 ts fun T => two? l fun m k => delV (mapT P T) m k h
  | .min => two? l fun x y => minK x y h
  | .max => two? l fun x y => maxK x y h
  | _ => none
noncomputable def callK (v : V) : Cl → List V → Hp → Res :=
  V.casesOn v (fun _ _ => fun _ _ _ => none) (fun _ => fun _ _ _ => none) (fun _ => fun _ _ _ => none) (fun _ _ _ => none) (fun _ _ => fun _ _ _ => none) (fun _ _ _ => none) (fun _ _ _ _ => fun _ _ _ => none) (fun _ _ _ _ => fun _ _ _ => none) (fun _ _ _ => none) (fun _ => fun _ _ _ => none) (fun _ _ _ => none) (fun f cap call args h => call f (appL args cap) h) (fun _ => fun _ _ _ => none) (fun _ => fun _ _ _ => none) (fun _ _ _ _ _ => fun _ _ _ => none) (fun _ _ _ => fun _ _ _ => none)
noncomputable def withs (r : Option (List V)) (k : List V → Res) : Res := Option.rec none k r
noncomputable def sCallV (f : Operand) (args : List Operand) : St1 := fun call rg h => with1 (opV rg f) fun f => withs (opVs rg args) fun args => callK f call args h
noncomputable def sBi (P : Program) (b : Builtin) (ts : Array TypeId) (args : List Operand) : St1 := fun _ rg h => withs (opVs rg args) fun l => biV P b ts l h
noncomputable def sCall (P : Program) (c : Call) : St1 := match c.callee with
  | .value f => sCallV f c.args.toList
  | .builtin b => sBi P b c.argTypes c.args.toList
  | .invoke _ _ => noS
noncomputable def exO (P : Program) (op : Op) : St1 := match op with
  | .move x => sMove x
  | .assign x => sMove x
  | .pick c a b => sPick c a b
  | .binOp op T x y _ => sBin P op T x y
  | .unOp op _ x => sUn op x
  | .load T x => sLoad P T x
  | .store T x y => sStore P T x y
  | .alloc T => sAlloc P T
  | .box _ x => sBox x
  | .build T ps => sBuild P T ps.toList
  | .buildSlice T n ps => sBsl P T n ps.toList
  | .nilCheck x => sNc x
  | .fieldAddr T x f => sFa P T x f
  | .field T x f => sFld P T x f
  | .indexAddr T x i => sIxa P T x i
  | .index T x i => sIxv P T x i
  | .extract x i => sExt x i
  | .slice T x lo hi mx => sSlc P T x lo hi mx
  | .makeFunc fn first cap => sMkf fn first.toList cap.toList
  | .makeSlice T l c => sMks P T l c
  | .convert s d x => sCvt P s d x
  | .makeMap _ r => sMkm r
  | .lookup T x i ok => sLkp P T x i ok
  | .mapUpdate T m k x => sUpd P T m k x
  | .sliceToArrayPointer T x => sA2p P T x
  | .call c => sCall P c
  | _ => noS
noncomputable def exR (P : Program) (call : Cl) (rg : Rg) (o : Oper) (h : Hp) : Res := exO P o.op call rg h

/-! ### Code -/
inductive Ex where
  | nm
  | ret
  | exit (id : Nat)
noncomputable def putD (rg : Rg) (dst : Option Tmp) (v : V) : Rg := match dst with | some d => rg.put (bp d) v | none => rg
def wantB (b w : Bool) : Bool := match b, w with | true, true => true | false, false => true | _, _ => false
noncomputable def wantV (v : Option V) (w : Bool) : Bool := match v with | some (.bool b) => wantB b w | _ => false
noncomputable def wantS (ops : List Oper) (rg : Rg) (j : Nat) (w : Bool) : Bool := match operAt ops j with
  | some q => match q.dst with
    | some d => wantV (rg.get (bp d)) w
    | none => false
  | none => false
/-- Is the guarded step wanted? -/
noncomputable def want? (ops : List Oper) (rg : Rg) (g : Option (Nat × Bool)) : Bool := match g with
  | none => true
  | some (j, w) => wantS ops rg j w
abbrev Rs := Option (Rg × Hp)
abbrev Rx := Option (Ex × Rg × Hp)
abbrev Cd := Code → Rg → Hp → Rx
noncomputable def putK (o : Oper) (rg : Rg) (r : Res) (k : Rg → Hp → Rs) : Rs := Option.rec none (fun p => Prod.rec (fun v h => k (putD rg o.dst v) h) p) r
noncomputable def stepR (P : Program) (call : Cl) (ops : List Oper) (o : Oper) (k : Rg → Hp → Rs) (rg : Rg) (h : Hp) : Rs :=
  Bool.rec (k (putD rg o.dst undV) h) (putK o rg (exR P call rg o h) k) (want? ops rg o.guard)
noncomputable def opsR (P : Program) (call : Cl) (ops : List Oper) (l : List Oper) : Rg → Hp → Rs :=
  List.rec (motive := fun _ => Rg → Hp → Rs) (fun rg h => some (rg, h)) (fun o _ ih => stepR P call ops o ih) l
/-! What was read is read again behind a loud operation that it does not stand ahead of: the same must come. -/
noncomputable def bpEq (p : Bp) : Bp → Bool :=
  Bp.rec (motive := fun _ => Bp → Bool) (fun q => Bp.casesOn q true (fun _ => false) (fun _ => false)) (fun _ ih q => Bp.casesOn q false ih (fun _ => false)) (fun _ ih q => Bp.casesOn q false (fun _ => false) ih) p
noncomputable def sEq (x y : V) : Bool := match x, y with
  | .int k a, .int k' b => kbeq k k' && eqI a b
  | .bool a, .bool b => boolEq a b
  | .str a, .str b => strEq a b
  | .nilp, .nilp => true
  | .ptr b o, .ptr b' o' => bpEq b b' && Nat.beq o o'
  | .nils, .nils => true
  | .sl b o n c, .sl b' o' n' c' => bpEq b b' && Nat.beq o o' && Nat.beq n n' && Nat.beq c c'
  | .sg b o n k, .sg b' o' n' k' => bpEq b b' && Nat.beq o o' && Nat.beq n n' && Nat.beq k k' && Nat.ble 1 n
  | .nilm, .nilm => true
  | .map b, .map b' => bpEq b b'
  | .nilf, .nilf => true
  | .ro r o c es _, .ro r' o' c' es' _ => Nat.beq r r' && Nat.beq o o' && Nat.beq c c' && Nat.beq (lenL es) (lenL es')
  | .rp r o _, .rp r' o' _ => Nat.beq r r' && Nat.beq o o'
  | _, _ => false
noncomputable def allS (l : List V) : List V → Bool :=
  List.rec (motive := fun _ => List V → Bool) (fun m => match m with | [] => true | _ => false) (fun x _ ih m => match m with | y :: m => (match sEq x y with | true => ih m | false => false) | [] => false) l
noncomputable def vEq (x y : V) : Bool := match x, y with
  | .agg l, .agg m => allS l m
  | x, y => sEq x y
abbrev Pnd := List (Nat × (Hp → Bool))
noncomputable def chk (r : Res) (v : V) : Bool := match r with
  | some (v', _) => vEq v v'
  | none => false
/-- The same value comes whenever it is read again from what has not changed. -/
noncomputable def sRef (v : V) : Bool := match v with
  | .sg _ _ n _ => Nat.ble 1 n
  | .fn _ _ => false
  | .agg _ => false
  | .tup _ => false
  | _ => true
noncomputable def allRef (l : List V) : Bool := List.rec true (fun x _ ih => match sRef x with | true => ih | false => false) l
noncomputable def vRef (v : V) : Bool := match v with
  | .agg l => allRef l
  | v => sRef v
/-- What is read was not turned since. -/
noncomputable def unch1 (h h' : Hp) (v : V) : Bool := match v with
  | .ptr b _ => Nat.beq (stamp h' b) (stamp h b)
  | .map b => Nat.beq (stamp h' b) (stamp h b)
  | _ => true
noncomputable def unch (rg : Rg) (op : Op) (h h' : Hp) : Bool := match op with
  | .load _ x => (match opV rg x with | some v => unch1 h h' v | none => false)
  | .lookup _ x _ _ => (match opV rg x with | some v => unch1 h h' v | none => false)
  | .call c => (match opVs rg c.args.toList with | some [v] => unch1 h h' v | _ => false)
  | _ => true
/-- Nothing that is read was turned since; or the same comes again. -/
noncomputable def chkW (rg : Rg) (o : Oper) (h : Hp) (v : V) (h' : Hp) (r : Res) : Bool := match unch rg o.op h h' with
  | true => (match vRef v with | true => true | false => chk r v)
  | false => chk r v
noncomputable def keepP (t : Nat) (l : Pnd) : Pnd := List.rec [] (fun p _ ih => match Nat.testBit t p.1 with | true => ih | false => p :: ih) l
noncomputable def keepQ (t : Nat) (l : Pnd) : Pnd := match l with | [] => [] | p :: r => keepP t (p :: r)
noncomputable def allP (h : Hp) (l : Pnd) : Bool := List.rec true (fun p _ ih => match p.2 h with | true => ih | false => false) l
/-- Makes but a new block, from nothing that stands in memory. -/
def freshOp (op : Op) : Bool := match op with
  | .alloc _ => true
  | .buildSlice .. => true
  | _ => false
def freshAt (ops : List Oper) (i : Nat) : Bool := match operAt ops i with
  | some o => (match o.guard with | none => freshOp o.op | some _ => false)
  | none => false
def without (f : Nat) : List Nat → List Nat
  | [] => []
  | i :: l => match Nat.beq i f with
    | true => without f l
    | false => i :: without f l
def sameL : List Nat → List Nat → Bool
  | [], [] => true
  | i :: l, j :: m => Nat.beq i j && sameL l m
  | _, _ => false
/-- What comes next; 'two r f': r, while f may come at any time. -/
inductive Nxt where
  | quiet (i : Nat)
  | loud (i : Nat)
  | two (r f : Nat)
  | done
  | no
def pick2 (ops : List Oper) (i j : Nat) (fl : Option Nat) : Nxt := match fl with
  | some f => match Nat.beq i f with
    | true => (match Nat.beq j f with | true => .no | false => .two j f)
    | false => match Nat.beq j f with | true => .two i f | false => .no
  | none => match freshAt ops i with
    | true => (match Nat.beq j i with | true => .no | false => .two j i)
    | false => match freshAt ops j with | true => (match Nat.beq i j with | true => .no | false => .two i j) | false => .no
/-- Whether f is done or not, just the same may come. -/
def flOk (em : List Nat) (m : Nat) (fl : Option Nat) : Bool := match fl with
  | none => true
  | some f => sameL (readyB (m ||| 2 ^ f) em 0) (without f (readyB m em 0))
/-- Whether f is done or not, the same quiet one comes next. -/
def flQ (P : Program) (ops : List Oper) (em : List Nat) (m : Nat) (fl : Option Nat) (i : Nat) : Bool := match fl with
  | none => true
  | some f => match findB P ops (readyB (m ||| 2 ^ f) em 0) with
    | some j => Nat.beq i j
    | none => false
def nextB' (P : Program) (ops : List Oper) (em : List Nat) (m : Nat) (fl : Option Nat) : Nxt := match findB P ops (readyB m em 0) with
  | some i => .quiet i
  | none => match readyB m em 0 with
    | [i] => .loud i
    | [] => .done
    | [i, j] => pick2 ops i j fl
    | _ => .no
def nextB (P : Program) (ops : List Oper) (em : List Nat) (m : Nat) (fl : Option Nat) : Nxt := match nextB' P ops em m fl with
  | .two r f => (match flOk em m (some f) && freshAt ops f with | true => .two r f | false => .no)
  | .quiet i => (match flQ P ops em m fl i with | true => .quiet i | false => .no)
  | x => x
noncomputable def addP (P : Program) (o : Oper) (i : Nat) (f : Hp → Bool) (pend : Pnd) : Pnd := match readOp o.op || cvPure P o.op with
  | true => (i, f) :: pend
  | false => pend
noncomputable def quietK (P : Program) (call : Cl) (o : Oper) (i : Nat) (pend : Pnd) (k : Pnd → Rg → Hp → Rs) (rg : Rg) (h : Hp) (r : Res) : Rs :=
  Option.rec none (fun p => Prod.rec (fun v h1 => k (addP P o i (fun h' => chkW rg o h v h' (exR P call rg o h')) pend) (putD rg o.dst v) h1) p) r
noncomputable def quietR (P : Program) (call : Cl) (ops : List Oper) (o : Oper) (i : Nat) (pend : Pnd) (k : Pnd → Rg → Hp → Rs) (rg : Rg) (h : Hp) : Rs :=
  Bool.rec (k pend (putD rg o.dst undV) h) (quietK P call o i pend k rg h (exR P call rg o h)) (want? ops rg o.guard)
noncomputable def loudK (k : Pnd → Rg → Hp → Rs) (pend : Pnd) (rg : Rg) (h : Hp) : Rs := Bool.rec none (k pend rg h) (allP h pend)
def someR (r : Res) : Bool := match r with | some _ => true | none => false
noncomputable def keepL (fl : Option Nat) (t : Nat) (pend : Pnd) : Pnd := match fl with | none => keepQ t pend | some _ => pend
noncomputable def anyK (P : Program) (call : Cl) (ops : List Oper) (tb : List Nat) (x : Nxt) (fl : Option Nat) (k : Nat → Option Nat → Pnd → Rg → Hp → Rs) (pend : Pnd) (rg : Rg) (h : Hp) : Rs := match x with
  | .done => some (rg, h)
  | .no => none
  | .quiet i => match operAt ops i with
    | none => none
    | some o => quietR P call ops o i pend (k i fl) rg h
  | .loud i => match operAt ops i with
    | none => none
    | some o => stepR P call ops o (loudK (k i none) (keepL fl (natAt tb i) pend)) rg h
  | .two i f => match operAt ops i with
    | none => none
    | some o => match operAt ops f with
      | none => none
      | some q => match someR (exR P call rg q h) && allP h (keepQ (natAt tb f) pend) with
        | true => stepR P call ops o (loudK (k i (some f)) (keepQ (natAt tb i) pend)) rg h
        | false => none
def end0 (em : List Nat) (m : Nat) : Bool := match readyB m em 0 with | [] => true | _ => false
noncomputable def anyR (P : Program) (call : Cl) (ops : List Oper) (em tb : List Nat) (fuel : Nat) : Nat → Option Nat → Pnd → Rg → Hp → Rs :=
  Nat.rec (fun m _ _ rg h => Bool.rec none (some (rg, h)) (end0 em m)) (fun _ ih m fl => anyK P call ops tb (nextB P ops em m fl) fl fun i => ih (Nat.lor m (Nat.pow 2 i))) fuel
noncomputable def argsR (l : List V) (k : Nat) (rg : Rg) : Rg := List.rec (motive := fun _ => Nat → Rg → Rg) (fun _ rg => rg) (fun v _ ih k rg => ih (Nat.succ k) (rg.put (bp k) v)) l k rg
noncomputable def res1 (P : Program) (rg : Rg) (h : Hp) (r : ResultVar) : Option V := match r with
  | .tmp t => opV rg (.tmp t)
  | .cell a t => match opV rg (.tmp a), shp P t with
    | some (.ptr b o), some (ag, n) => rdB ag n h b o
    | _, _ => none
noncomputable def resR (P : Program) (rg : Rg) (h : Hp) (l : List ResultVar) : Option (List V) :=
  List.rec (some []) (fun r _ ih => match res1 P rg h r, ih with | some v, some vs => some (v :: vs) | _, _ => none) l
noncomputable def outV (l : Option (List V)) (h : Hp) : Res := match l with
  | some [v] => some (v, h)
  | some l => some (.tup l, h)
  | none => none
noncomputable def retR (P : Program) (l : List ResultVar) (r : Rx) : Res := match r with
  | some (.exit _, _, _) => none
  | some (_, rg, h) => outV (resR P rg h l) h
  | none => none
/-- What is asked of a function's text. -/
def dstsOk (n : Nat) : Code → Bool
  | .region _ ops _ => ops.all fun o => match o.dst with | some d => decide (d < n) | none => true
  | .seq x y => dstsOk n x && dstsOk n y
  | .cond _ x y => dstsOk n x && dstsOk n y
  | .block _ c => dstsOk n c
  | .loop c => dstsOk n c
  | .scope c => dstsOk n c
  | .rangeFunc .. => false
  | _ => true
def okFn (fn : Func) : Bool := match fn.body with
  | none => false
  | some c => codeOk c && dstsOk fn.ntmps c && !(fn.name == "runtime.NumGoroutine")
noncomputable def bodyR (P : Program) (f : FuncId) : (Code → List ResultVar → Res) → Res := match P.funcs[f]? with
  | none => fun _ => none
  | some fn => match okFn fn with
    | false => fun _ => none
    | true => fun k => k (bodyOf fn) fn.results.toList
noncomputable def callR (P : Program) (G : Nat → Option (List V)) (S : FuncId → List V → Hp → Option Res) (self : Cd) (f : FuncId) (args : List V) (h : Hp) : Res :=
  Option.rec (bodyR P f fun c l => retR P l (self c (argsR args 0 ⟨.e, G⟩) h)) (fun r => r) (S f args h)
noncomputable def nmK (r : Rs) : Rx := Option.rec none (fun p => Prod.rec (fun rg h => some (.nm, rg, h)) p) r
noncomputable def condK (v : V) : Rx → Rx → Rx :=
  V.casesOn v (fun _ _ => fun _ _ => none) (fun c a b => Bool.rec b a c) (fun _ => fun _ _ => none) (fun _ _ => none) (fun _ _ => fun _ _ => none) (fun _ _ => none) (fun _ _ _ _ => fun _ _ => none) (fun _ _ _ _ => fun _ _ => none) (fun _ _ => none) (fun _ => fun _ _ => none) (fun _ _ => none) (fun _ _ => fun _ _ => none) (fun _ => fun _ _ => none) (fun _ => fun _ _ => none) (fun _ _ _ _ _ => fun _ _ => none) (fun _ _ _ => fun _ _ => none)
noncomputable def thenX (e : Ex) : Rg → Hp → (Rg → Hp → Rx) → Rx := match e with
  | .nm => fun rg h k => k rg h
  | e => fun rg h _ => some (e, rg, h)
noncomputable def thenR (r : Rx) (k : Rg → Hp → Rx) : Rx := match r with
  | some (e, rg, h) => thenX e rg h k
  | none => none
def inBlk (id : Nat) (e : Ex) : Ex := match e with
  | .exit j => match Nat.beq id j with | true => .nm | false => .exit j
  | e => e
noncomputable def blkR (id : Nat) (r : Rx) : Rx := match r with
  | some (e, rg, h) => some (inBlk id e, rg, h)
  | none => none
abbrev Cs := Cl → Cd → Rg → Hp → Rx
noncomputable def cRegion (P : Program) (ops : Array Oper) (draw : Bool) : Cs := match draw with
  | false => fun call _ rg h => nmK (opsR P call ops.toList ops.toList rg h)
  | true => fun call _ rg h => nmK (anyR P call ops.toList (emasks ops.toList) (Region.before ops).toList ops.size 0 none [] rg h)
noncomputable def cSeq (x y : Code) : Cs := fun _ self rg h => thenR (self x rg h) (self y)
noncomputable def cCond (c : Operand) (x y : Code) : Cs := fun _ self rg h => Option.rec none (fun v => condK v (self x rg h) (self y rg h)) (opV rg c)
noncomputable def cBlock (id : Nat) (c : Code) : Cs := fun _ self rg h => blkR id (self c rg h)
noncomputable def cLoop (c : Code) : Cs := fun _ self rg h => thenR (self c rg h) (self (.loop c))
def cEx (e : Ex) : Cs := fun _ _ rg h => some (e, rg, h)
def cNo : Cs := fun _ _ _ _ => none
noncomputable def evC (P : Program) (c : Code) : Cs := match c with
  | .skip => cEx .nm
  | .label _ => cEx .nm
  | .region _ ops draw => cRegion P ops draw
  | .seq x y => cSeq x y
  | .cond c x y => cCond c x y
  | .block id c => cBlock id c
  | .loop c => cLoop c
  | .exit id => cEx (.exit id)
  | .ret => cEx .ret
  | .scope c => fun _ self => self c
  | _ => cNo
noncomputable def ev (P : Program) (G : Nat → Option (List V)) (S : FuncId → List V → Hp → Option Res) (n : Nat) : Cd :=
  Nat.rec (fun _ _ _ => none) (fun _ ih c => evC P c (callR P G S ih) ih) n
noncomputable def runF (P : Program) (G : Nat → Option (List V)) (S : FuncId → List V → Hp → Option Res) (n : Nat) (f : FuncId) (args : List V) (h : Hp) : Res := callR P G S (ev P G S n) f args h
def h0 : Hp := ⟨.e, .h, .e⟩
end Go.Proofs.YthdaccndnfgeeaaGreatDoor.CM
