/- The calculus of conditions 'vc' over the model's code, and that it is sound: no program in sight. -/
import Derived.CallsIn
import Derived.OrdersIn
import Derived.RangeFuncIn
import Derived.Scope
import Derived.Laws.Sem
namespace Go.Proofs.YthdaccndnfgeeaaGreatDoor.CM
open Go

/-! ### The fence that lets everything by, of an activation or of a round -/
abbrev FW (ro : Option Nat) : Fence := { fn := fun _ => True, depth := none, alive := false, round := ro }
theorem callsIn_fw {ro : Option Nat} {n : Nat} {P : Program} {f : FuncId} {args : Array Value} {w : World} {R : Ending → World → Prop} :
    CallsIn (FW ro) n P f args w R ↔ Calls P f args w R := callsIn_wide (n := n)

/-- A call that returns. -/
structure Fc (P : Program) (f : FuncId) (args : Array Value) (w : World) (K : Value → World → Prop) : Prop where
  out : (∀ w, (callFunc f args).run P w = .ok (.enter f args) w) ∧ Calls P f args w fun e w' => ∃ v, e = .returned v ∧ K v w'
theorem Fc.mono {P : Program} {f : FuncId} {args : Array Value} {w : World} {K K' : Value → World → Prop} (h : Fc P f args w K) (hk : ∀ v w', K v w' → K' v w') : Fc P f args w K' :=
  ⟨h.out.1, h.out.2.mono fun _ _ ⟨v, he, hv⟩ => ⟨v, he, hk _ _ hv⟩⟩
/-- A round of a range over a function. -/
def Rnd (P : Program) (l : Nat) (f : FuncId) (tmps : Array Value) (assign body : Code) (w : World) (K : Value → World → Prop) : Prop :=
  RoundIn (FW none) 0 P l f tmps assign body w fun e w' => ∃ v, e = .returned v ∧ K v w'
theorem Rnd.mono {P : Program} {l : Nat} {f : FuncId} {tmps : Array Value} {assign body : Code} {w : World} {K K' : Value → World → Prop} (h : Rnd P l f tmps assign body w K) (hk : ∀ v w', K v w' → K' v w') : Rnd P l f tmps assign body w K' :=
  RoundIn.mono h fun _ _ ⟨v, he, hv⟩ => ⟨v, he, hk _ _ hv⟩
def Rw (P : Program) (row : String) (args : Array Value) (w : World) (K : Value → World → Prop) : Prop := Rows P row args w K

/-- What a step comes to: a value and a world; a call; a round. -/
def NxD (P : Program) (s : Sem Next) (w : World) (K : Value → World → Prop) : Prop :=
  match s.run P w with
  | .ok (.value v) w' => K v w'
  | .ok .skip w' => K undef w'
  | .ok (.enter f args) w' => Calls P f args w' fun e w'' => ∃ v, e = .returned v ∧ K v w''
  | .ok (.row r args) w' => Rows P r args w' K
  | .ok (.round l f tmps assign body) w' => Rnd P l f tmps assign body w' K
  | _ => False
structure Nx (P : Program) (s : Sem Next) (w : World) (K : Value → World → Prop) : Prop where
  out : NxD P s w K
/-- A run that meets neither memory nor the tape. -/
def pev (P : Program) {α : Type} : Sem α → Option α
  | .pure a => some a
  | .program k => pev P (k P)
  | .mark _ k => pev P k
  | _ => none
/-- A run that only reads. -/
def rdev (P : Program) {α : Type} : Sem α → World → Option α
  | .pure a, _ => some a
  | .program k, w => rdev P (k P) w
  | .mark _ k, w => rdev P k w
  | .load _ a k, w => match w.cell? a with
    | some v => rdev P (k v) w
    | none => none
  | .getObj r k, w => match w.heap[r]? with
    | some (.cells ..) => none
    | some o => rdev P (k o) w
    | none => none
  | .shape r k, w => rdev P (k (w.shape? r)) w
  | .frozen a k, w => rdev P (k (w.frozen? a)) w
  | _, _ => none
theorem pev_run {P : Program} {α : Type} {s : Sem α} {a : α} (h : pev P s = some a) (w : World) : s.run P w = .ok a w := by
  induction s with
  | pure a => simp only [pev, Option.some.injEq] at h; subst h; rfl
  | program k ih => exact ih _ h
  | mark m k ih => exact ih h
  | _ => simp [pev] at h
theorem rdev_run {P : Program} {α : Type} {s : Sem α} {a : α} {w : World} (h : rdev P s w = some a) : s.run P w = .ok a w := by
  induction s with
  | pure a => simp only [rdev, Option.some.injEq] at h; subst h; rfl
  | program k ih => exact ih _ h
  | mark m k ih => exact ih h
  | load m a k ih =>
    simp only [rdev] at h
    split at h
    · rename_i v hv; simp only [Sem.run, hv]; exact ih _ h
    · cases h
  | getObj r k ih =>
    simp only [rdev] at h
    split at h
    · cases h
    · rename_i o ho hw; simp only [Sem.run, hw]; exact ih _ h
    · cases h
  | shape r k ih => exact ih _ h
  | frozen a k ih => exact ih _ h
  | _ => simp [rdev] at h
theorem pev_rdev {P : Program} {α : Type} {s : Sem α} {a : α} (h : pev P s = some a) (w : World) : rdev P s w = some a := by
  induction s with
  | pure a => exact h
  | program k ih => exact ih _ h
  | mark m k ih => exact ih h
  | _ => simp [pev] at h
def nval : Option Next → Option Value
  | some (.value v) => some v
  | _ => none
theorem nval_some {o : Option Next} {v : Value} (h : nval o = some v) : o = some (.value v) := by
  unfold nval at h; split at h <;> simp_all
/-- A step that only reads. -/
structure Rd (P : Program) (s : Sem Next) (w : World) (K : Value → Prop) : Prop where
  out : ∃ v, nval (rdev P s w) = some v ∧ K v
/-- A step that neither reads nor writes. -/
structure Pu (P : Program) (s : Sem Next) (K : Value → Prop) : Prop where
  out : ∃ v, nval (pev P s) = some v ∧ K v
/-- What was read is read still. -/
def Stb (P : Program) (s : Sem Next) (v : Value) (w : World) : Prop := nval (rdev P s w) = some v
theorem Stb.run {P : Program} {s : Sem Next} {v : Value} {w : World} (h : Stb P s v w) : s.run P w = .ok (.value v) w := rdev_run (nval_some h)
theorem Pu.rd {P : Program} {s : Sem Next} {w : World} {K : Value → Prop} (h : Pu P s K) : Rd P s w K := let ⟨v, h1, h2⟩ := h; ⟨v, by rw [pev_rdev (nval_some h1) w]; rfl, h2⟩
theorem Rd.nx {P : Program} {s : Sem Next} {w : World} {K : Value → World → Prop} (h : Rd P s w fun v => K v w) : Nx P s w K := by
  obtain ⟨v, h1, h2⟩ := h; refine ⟨?_⟩; unfold NxD; rw [rdev_run (nval_some h1)]; exact h2
theorem Nx.mono {P : Program} {s : Sem Next} {w : World} {K K' : Value → World → Prop} (h : Nx P s w K) (hk : ∀ v w', K v w' → K' v w') : Nx P s w K' := by
  refine ⟨?_⟩
  have h := h.out
  unfold NxD at *
  split at h <;> first
    | exact hk _ _ h
    | exact h.mono fun _ _ ⟨v, he, hv⟩ => ⟨v, he, hk _ _ hv⟩
    | exact Rows.mono h hk
    | exact Rnd.mono h hk
    | exact h.elim
theorem Rd.mono {P : Program} {s : Sem Next} {w : World} {K K' : Value → Prop} (h : Rd P s w K) (hk : ∀ v, K v → K' v) : Rd P s w K' := let ⟨v, a, b⟩ := h; ⟨v, a, hk _ b⟩
theorem Pu.mono {P : Program} {s : Sem Next} {K K' : Value → Prop} (h : Pu P s K) (hk : ∀ v, K v → K' v) : Pu P s K' := let ⟨v, a, b⟩ := h; ⟨v, a, hk _ b⟩

/-- A guarded step: carried out if the guard has told so. -/
structure Gd (v : Value) (want : Bool) (E : (Value → World → Prop) → Prop) (w : World) (K : Value → World → Prop) : Prop where
  out : (v = .bool want ∧ E K) ∨ (v ≠ .bool want ∧ K undef w)
/-- A test. -/
structure Cnd (v : Value) (A B : Prop) : Prop where
  out : (v = .bool true ∧ A) ∨ (v = .bool false ∧ B)

/-- Which operations neither read nor write; which ones read alone. -/
def pureOp : Op → Bool
  | .move _ | .assign _ | .pick .. | .build .. | .nilCheck _ | .binOp .. | .unOp .. | .makeInterface .. | .makeFunc .. | .slice .. | .fieldAddr .. | .field .. | .indexAddr .. | .index .. | .typeAssert .. | .extract .. => true
  | .call { callee := .builtin .cap, .. } | .call { callee := .builtin .min, .. } | .call { callee := .builtin .max, .. } => true
  | _ => false
def readOp : Op → Bool
  | .load .. | .lookup .. => true
  | .call { callee := .builtin .len, .. } => true
  | _ => false

/-! Frames, so that the kernel reckons with them quickly. -/
def nthV : List Value → Nat → Value
  | [], _ => undef
  | v :: _, 0 => v
  | _ :: l, i + 1 => nthV l i
def setV : List Value → Nat → Value → List Value
  | [], _, _ => []
  | _ :: l, 0, v => v :: l
  | x :: l, i + 1, v => x :: setV l i v
def evA (a : Act) : Operand → Value
  | .tmp t => nthV a.tmps.toList t
  | .const v => v
  | .global g => .pointer (some ⟨g, 0, none⟩)
  | .func f => .func (.func f) #[] #[]
def putA (a : Act) (dst : Option Tmp) (v : Value) : Act :=
  match dst with
  | some d => ⟨⟨setV a.tmps.toList d v⟩, a.defers⟩
  | none => a
theorem nthV_eq (l : List Value) (i : Nat) : nthV l i = l.getD i undef := by
  induction l generalizing i with
  | nil => rfl
  | cons v l ih => cases i with
    | zero => rfl
    | succ i => simpa [nthV] using ih i
theorem setV_eq (l : List Value) (i : Nat) (v : Value) : setV l i v = l.set i v := by
  induction l generalizing i with
  | nil => rfl
  | cons x l ih => cases i with
    | zero => rfl
    | succ i => simp [setV, ih]
theorem evA_eq (a : Act) : evA a = a.eval := by
  funext x
  cases x with
  | tmp t => simp [evA, Act.eval, nthV_eq]
  | _ => rfl
theorem putA_eq (a : Act) (dst : Option Tmp) (v : Value) : putA a dst v = a.put dst v := by
  cases dst with
  | none => rfl
  | some d =>
    cases a with
    | mk tmps defers =>
      simp only [putA, Act.put, Act.mk.injEq, and_true]
      apply Array.ext'
      simp [setV_eq]

/-- One operation, its guard aside. -/
def mapV (ρ : Operand → Value) : List Operand → List Value
  | [] => []
  | x :: l => ρ x :: mapV ρ l
def mapP (ρ : Operand → Value) : List (Nat × Operand) → List (Nat × Value)
  | [] => []
  | x :: l => (x.1, ρ x.2) :: mapP ρ l
def mapC : List Operand → List Bool
  | [] => []
  | x :: l => (match x with | .const _ => true | _ => false) :: mapC l
theorem mapV_eq (ρ : Operand → Value) (l : List Operand) : mapV ρ l = l.map ρ := by induction l <;> simp [mapV, *]
theorem mapP_eq (ρ : Operand → Value) (l : List (Nat × Operand)) : mapP ρ l = l.map fun (i, x) => (i, ρ x) := by induction l <;> simp [mapP, *]
theorem mapC_eq (l : List Operand) : mapC l = l.map fun | .const _ => true | _ => false := by induction l <;> simp [mapC, *]
/-- 'execOp', for the kernel: what it maps, it maps over lists. -/
def semR (ρ : Operand → Value) (o : Oper) : Sem Next :=
  match o.op with
  | .build t ps => do pure (.value (← Instr.build t ⟨mapP ρ ps.toList⟩))
  | .buildSlice t n ps => do pure (.value (← Instr.buildSlice t n ⟨mapP ρ ps.toList⟩))
  | .makeFunc fn a c => do pure (.value (← Instr.makeFunc fn ⟨mapV ρ a.toList⟩ ⟨mapV ρ c.toList⟩))
  | .call { callee := .builtin b, args, argTypes } => builtin b argTypes o.type ⟨mapC args.toList⟩ ⟨mapV ρ args.toList⟩
  | .call { callee := .value f, args, .. } => do let d ← Deferred.ofValue (ρ f) ⟨mapV ρ args.toList⟩; invoke d.target d.args
  | _ => execOp ρ o
theorem semR_eq (ρ : Operand → Value) (o : Oper) : semR ρ o = execOp ρ o := by
  have e : ∀ (a : Array Operand), (⟨mapV ρ a.toList⟩ : Array Value) = a.map ρ := fun a => by apply Array.ext'; simp [mapV_eq]
  have e2 : ∀ (a : Array (Nat × Operand)), (⟨mapP ρ a.toList⟩ : Array (Nat × Value)) = a.map fun (i, x) => (i, ρ x) := fun a => by apply Array.ext'; simp [mapP_eq]
  have e3 : ∀ (a : Array Operand), (⟨mapC a.toList⟩ : Array Bool) = a.map fun | .const _ => true | _ => false := fun a => by apply Array.ext'; simp [mapC_eq]
  unfold semR
  split <;> rename_i h
  · simp only [execOp, h, e2]
  · simp only [execOp, h, e2]
  · simp only [execOp, h, e]
  · simp only [execOp, h, e, e3, resolve]; rfl
  · simp only [execOp, h, e, resolve]
  · rfl
def vcOpR (P : Program) (o : Oper) (ρ : Operand → Value) (w : World) (K : Value → World → Prop) : Prop :=
  match o.op with
  | .move x | .assign x => K (ρ x) w
  | .call { callee := .value (.func f), args, .. } => Fc P f ⟨mapV ρ args.toList⟩ w K
  | op => if pureOp op then Pu P (semR ρ o) fun v => K v w else if readOp op then Rd P (semR ρ o) w fun v => K v w else Nx P (semR ρ o) w K
def vcOp (P : Program) (o : Oper) (a : Act) (w : World) (K : Value → World → Prop) : Prop := vcOpR P o (evA a) w K

def slotOf (ops : Array Oper) (j : Nat) (a : Act) : Value :=
  match (ops[j]?).bind (·.dst) with
  | some d => nthV a.tmps.toList d
  | none => undef

/-- Operations one behind the other. -/
def vcOps (P : Program) (ops : Array Oper) : List Oper → (Act → World → Prop) → Act → World → Prop
  | [], Q, a, w => Q a w
  | o :: r, Q, a, w =>
    match o.guard with
    | none => vcOp P o a w fun v w' => vcOps P ops r Q (putA a o.dst v) w'
    | some (j, want) => Gd (slotOf ops j a) want (fun K => vcOp P o a w K) w fun v w' => vcOps P ops r Q (putA a o.dst v) w'

theorem yielded_slot {ops : Array Oper} {j : Nat} {a : Act} {want : Bool} : (yielded ops a.tmps j == some want) = true ↔ slotOf ops j a = .bool want := by
  unfold yielded slotOf
  simp only [nthV_eq, show ∀ d, a.tmps.toList.getD d undef = a.tmps.getD d undef from fun d => by simp]
  cases h : (ops[j]?).bind (·.dst) with
  | none => simp [undef]
  | some d =>
    simp only [Option.bind_some]
    cases h2 : a.tmps[d]? with
    | none => simp [undef, Array.getD_eq_getD_getElem?, h2]
    | some v => cases v <;> simp [Array.getD_eq_getD_getElem?, h2]

theorem about_fw {ro : Option Nat} {P : Program} {o : Oper} {a : Act} {w : World} : ∀ f, o.about P w a.eval = some f → (FW ro).fn f := fun _ _ => trivial

/-- No panic, and room for all. -/
def NP (Q : Exit → Act → World → Prop) : Exit → Act → World → Prop
  | .panic _, _, _ => False
  | .outgrown, _, _ => False
  | e, a, w => Q e a w
theorem NP.imp {Q : Exit → Act → World → Prop} : ∀ e a w, NP Q e a w → Q e a w := fun e a w h => by cases e <;> first | exact h | exact h.elim

def noDefer (o : Oper) : Bool := match o.op with | .defer _ | .select .. => false | _ => true

theorem nx_wp {ro : Option Nat} {P : Program} {o : Oper} {a : Act} {w : World} {K : Value → World → Prop} {next : Act → World → Prop} {Q : Exit → Act → World → Prop} (hd : noDefer o = true)
    (h : Nx P (execOp a.eval o) w K) (hk : ∀ v w', K v w' → next (a.put o.dst v) w') : o.wpIn (FW ro) 0 P a w next Q := by
  refine ⟨fun _ _ => trivial, ?_⟩
  have he : o.semAt (FW ro).round a.eval = execOp a.eval o := Oper.semAt_eq _ _ _ (fun c hc => by simp [noDefer, hc] at hd)
  rw [he]
  have h := h.out
  unfold NxD at h
  generalize (execOp a.eval o).run P w = r at *
  cases r with
  | halt x w' => exact h.elim
  | ok x w' =>
    cases x <;> simp only at h <;> simp only [Oper.uponIn] <;> first
      | exact hk _ _ h
      | exact h.elim
      | skip
    case enter f args =>
      refine ⟨fun h => by simp at h, callsIn_fw.2 (h.mono ?_)⟩
      rintro e w2 ⟨v, rfl, hv⟩
      exact hk _ _ hv
    case round l f tmps assign body =>
      refine ⟨fun h => by simp at h, RoundIn.mono (F := FW none) h ?_⟩
      rintro e w2 ⟨v, rfl, hv⟩
      exact hk _ _ hv
    case row r args =>
      refine ⟨fun h => by simp at h, fun c cs _ => ?_⟩
      obtain ⟨v, w2, hv, hs⟩ := h c cs
      exact ⟨v, w2, hk _ _ hv, stepsIn_wide.2 hs⟩

theorem fn_nx {P : Program} {o : Oper} {f : FuncId} {args : Array Operand} {ts : Array TypeId} {a : Act} {w : World} {K : Value → World → Prop}
    (ho : o.op = .call { callee := .value (.func f), args, argTypes := ts }) (h : Fc P f (args.map a.eval) w K) : Nx P (execOp a.eval o) w K := by
  have e : execOp a.eval o = callFunc f (args.map a.eval) := by
    unfold execOp
    simp only [ho, resolve, Deferred.ofValue, Act.eval]
    simp [bind, Sem.bind, pure, invoke]
  refine ⟨?_⟩
  unfold NxD
  rw [e, h.out.1 w]
  exact h.out.2

theorem vcOp_nx {P : Program} {o : Oper} {a : Act} {w : World} {K : Value → World → Prop} (h : vcOp P o a w K) : Nx P (execOp a.eval o) w K := by
  unfold vcOp vcOpR at h
  have e : ∀ (a' : Array Operand), (⟨mapV a.eval a'.toList⟩ : Array Value) = a'.map a.eval := fun a' => by apply Array.ext'; simp [mapV_eq]
  simp only [evA_eq, semR_eq, e] at h
  split at h
  · rename_i x hx; refine ⟨?_⟩; unfold NxD; rw [show execOp a.eval o = pure (.value (a.eval x)) by simp [execOp, hx]]; exact h
  · rename_i x hx; refine ⟨?_⟩; unfold NxD; rw [show execOp a.eval o = pure (.value (a.eval x)) by simp [execOp, hx]]; exact h
  · rename_i f args ts hx; exact fn_nx hx h
  · split at h
    · exact Rd.nx (Pu.rd h)
    · split at h
      · exact Rd.nx h
      · exact h

theorem vcOps_sound {ro : Option Nat} {P : Program} {ops : Array Oper} {Q : Exit → Act → World → Prop} {q : Act → World → Prop} (hq : ∀ a w, q a w → Q .normal a w) :
    ∀ (l : List Nat) (lo : List Oper) (a : Act) (w : World), (∀ i : Nat, (l[i]?).bind (ops[·]?) = lo[i]?) → l.length = lo.length → (∀ o ∈ lo, noDefer o = true) → vcOps P ops lo q a w → wpOpsIn (FW ro) 0 P ops Q l a w
  | [], [], a, w, _, _, _, h => hq _ _ h
  | [], _ :: _, _, _, _, hl, _, _ => by simp at hl
  | _ :: _, [], _, _, _, hl, _, _ => by simp at hl
  | i :: l, o :: lo, a, w, hs, hl, hd, h => by
    have h0 : ops[i]? = some o := by have := hs 0; simpa using this
    have hs' : ∀ k : Nat, (l[k]?).bind (ops[·]?) = lo[k]? := fun k => by have := hs (k + 1); simpa using this
    have ih : ∀ a w, vcOps P ops lo q a w → wpOpsIn (FW ro) 0 P ops Q l a w := fun a w => vcOps_sound hq l lo a w hs' (by simpa using hl) (fun o ho => hd o (List.mem_cons_of_mem _ ho))
    have hdo := hd o (List.mem_cons_self ..)
    simp only [wpOpsIn, h0]
    simp only [vcOps, putA_eq] at h
    split at h
    · rename_i hg
      have hw : Region.wanted o (yielded ops a.tmps) = true := by simp [Region.wanted, hg]
      simp only [hw, if_true]
      exact nx_wp hdo (vcOp_nx h) fun v w' hv => ih _ _ hv
    · rename_i j want hg
      rcases h with ⟨hv, h⟩ | ⟨hv, h⟩
      · have hw : Region.wanted o (yielded ops a.tmps) = true := by simp only [Region.wanted, hg]; exact yielded_slot.2 hv
        simp only [hw, if_true]
        exact nx_wp hdo (vcOp_nx h) fun v w' hv => ih _ _ hv
      · have hw : Region.wanted o (yielded ops a.tmps) = false := by
          cases hb : Region.wanted o (yielded ops a.tmps) with
          | false => rfl
          | true => simp only [Region.wanted, hg] at hb; exact absurd (yielded_slot.1 hb) hv
        simp only [hw, Bool.false_eq_true, if_false]
        exact ⟨fun _ _ => trivial, ih _ _ h⟩

/-! ### A region that draws its order -/
section draw
variable {ro : Option Nat} {P : Program} {ops : Array Oper} {Q : Exit → Act → World → Prop}

/-- A conversion among whole numbers. -/
def cvPure (P : Program) (op : Op) : Bool :=
  match op with
  | .convert s d _ => (match P.underlying s, P.underlying d with | some (.int _), some (.int _) => true | _, _ => false)
  | _ => false
def quietOp (P : Program) (o : Oper) : Bool := pureOp o.op || readOp o.op || cvPure P o.op
/-- Operation k waits for i, be it through others. -/
inductive Bef (ops : Array Oper) : Nat → Nat → Prop
  | one {k : Nat} {o : Oper} {e : Edge} (h : ops[k]? = some o) (he : e ∈ o.after) (hb : Region.binds .any e = true) : Bef ops k e.on
  | more {k i : Nat} {o : Oper} {e : Edge} (h : ops[k]? = some o) (he : e ∈ o.after) (hb : Region.binds .any e = true) (h' : Bef ops e.on i) : Bef ops k i
/-- What has come up came up behind what it waits for. -/
def Down (ops : Array Oper) (listed : Array Bool) : Prop := ∀ k o, ops[k]? = some o → listed.getD k false = true → ∀ e ∈ o.after, Region.binds .any e = true → listed.getD e.on false = true
theorem Down.bef {ops : Array Oper} {listed : Array Bool} (h : Down ops listed) {k i : Nat} (hb : Bef ops k i) : listed.getD k false = true → listed.getD i false = true := by
  induction hb with
  | one ho he hb => exact fun hk => h _ _ ho hk _ he hb
  | more ho he hb _ ih => exact fun hk => ih (h _ _ ho hk _ he hb)
/-- No loud operation that has come up waits for i. -/
def Live (P : Program) (ops : Array Oper) (listed : Array Bool) (i : Nat) : Prop := ∀ k ok, ops[k]? = some ok → listed.getD k false = true → quietOp P ok = false → ¬ Bef ops k i
abbrev Pend := List (Nat × Sem Next × Value)
def Obl (P : Program) (ops : Array Oper) (listed : Array Bool) (pend : Pend) (w : World) : Prop := ∀ p ∈ pend, Live P ops listed p.1 → Stb P p.2.1 p.2.2 w

def wpAnyP (ro : Option Nat) (P : Program) (ops : Array Oper) (Q : Exit → Act → World → Prop) : Nat → Array Bool → Pend → Act → World → Prop
  | 0, listed, _, a, w => Region.ready .any ops listed = [] ∧ Q .normal a w
  | fuel + 1, listed, pend, a, w =>
    (Region.ready .any ops listed = [] → Q .normal a w) ∧
    ∀ j ∈ Region.ready .any ops listed, wpOpIn (FW ro) 0 P ops Q j (fun a' w' => Obl P ops (listed.setIfInBounds j true) pend w' ∧ wpAnyP ro P ops Q fuel (listed.setIfInBounds j true) pend a' w') a w

theorem wpAny_of_P : ∀ (fuel : Nat) (listed : Array Bool) (pend : Pend) (a : Act) (w : World), wpAnyP ro P ops Q fuel listed pend a w → wpAnyIn (FW ro) 0 P .any ops Q fuel listed a w
  | 0, _, _, _, _, h => h
  | fuel + 1, _, _, _, _, h => ⟨h.1, fun j hj => wpOpIn_mono (fun a' w' h' => wpAny_of_P fuel _ _ a' w' h'.2) (h.2 j hj)⟩

/-- What operation o leaves in state a, world w. -/
def YA (P : Program) (ops : Array Oper) (o : Oper) (s : Sem Next) (v : Value) (a : Act) (w : World) : Prop :=
  (Region.wanted o (yielded ops a.tmps) = true ∧ execOp a.eval o = s ∧ Stb P s v w) ∨ (Region.wanted o (yielded ops a.tmps) = false ∧ v = undef)

theorem YA.wpOp {i : Nat} {o : Oper} {s : Sem Next} {v : Value} {a : Act} {w : World} (hi : ops[i]? = some o) (hd : noDefer o = true) (hy : YA P ops o s v a w)
    {K : Act → World → Prop} (h : K (a.put o.dst v) w) : wpOpIn (FW ro) 0 P ops Q i K a w := by
  unfold Go.wpOpIn
  simp only [hi]
  rcases hy with ⟨hw, he, hv⟩ | ⟨hw, rfl⟩
  · simp only [hw, if_true]
    refine nx_wp (K := fun u w' => u = v ∧ w' = w) hd ?_ ?_
    · refine ⟨?_⟩; unfold NxD; rw [he, hv.run]; exact ⟨rfl, rfl⟩
    · rintro _ _ ⟨rfl, rfl⟩; exact h
  · simp only [hw, Bool.false_eq_true, if_false]; exact ⟨fun _ _ => trivial, h⟩

theorem wpOpIn_putP {j : Nat} {oi oj : Oper} {v : Value} (hj : ops[j]? = some oj) (hap : oi.apart ops oj = true)
    (hsi : ∀ cs b, oi.op ≠ .select cs b) (hdj : noDefer oj = true)
    (hQ : ∀ c a w, Q (.panic c) (a.put oi.dst v) w → Q (.panic c) a w) {K : Act → World → Prop} {a : Act} {w : World}
    (h : wpOpIn (FW ro) 0 P ops Q j K (a.put oi.dst v) w) :
    wpOpIn (FW ro) 0 P ops Q j (fun a' w' => (execOp a'.eval oi = execOp a.eval oi ∧ Region.wanted oi (yielded ops a'.tmps) = Region.wanted oi (yielded ops a.tmps)) ∧ K (a'.put oi.dst v) w') a w := by
  obtain ⟨h1, h2, h3⟩ := Oper.apart_spec hap
  have hsj : ∀ cs b, oj.op ≠ .select cs b := fun cs b hc => by simp [noDefer, hc] at hdj
  have hfj : ∀ c, oj.op ≠ .defer c := fun c hc => by simp [noDefer, hc] at hdj
  have keep : ∀ u, execOp (a.put oj.dst u).eval oi = execOp a.eval oi ∧ Region.wanted oi (yielded ops (a.put oj.dst u).tmps) = Region.wanted oi (yielded ops a.tmps) :=
    fun u => ⟨execOp_put oi hsi a oj.dst u h3, wanted_put oi a oj.dst u h3⟩
  unfold wpOpIn at *
  simp only [hj] at *
  rw [wanted_put oj a oi.dst v h1] at h
  split
  · rename_i hw
    simp only [hw, if_true] at h
    unfold Oper.wpIn at *
    refine ⟨fun _ _ => trivial, ?_⟩
    have h := h.2
    rw [Oper.semAt_eq _ _ _ hfj, execOp_put oj hsj a oi.dst v h1] at h
    rw [Oper.semAt_eq _ _ _ hfj]
    generalize (execOp a.eval oj).run P w = r at *
    cases r with
    | ok x w' =>
      cases x <;> simp only [Oper.uponIn] at h ⊢
      case value u => exact ⟨keep u, by rw [← Act.put_comm a v u h2]; exact h⟩
      case skip => exact ⟨keep _, by rw [← Act.put_comm a v undef h2]; exact h⟩
      case defer d =>
        have e : execOp (({ a with defers := d :: a.defers } : Act).put oj.dst undef).eval oi = execOp a.eval oi := by
          rw [execOp_put oi hsi _ oj.dst undef h3]; rfl
        have e2 : Region.wanted oi (yielded ops (({ a with defers := d :: a.defers } : Act).put oj.dst undef).tmps) = Region.wanted oi (yielded ops a.tmps) := by
          rw [wanted_put oi _ oj.dst undef h3]
        refine ⟨⟨e, e2⟩, ?_⟩
        rw [← Act.put_comm _ v undef h2, ← Act.put_defers]
        exact h
      case enter f args =>
        refine ⟨h.1, CallsIn.mono h.2 fun e w'' he => ?_⟩
        cases e with
        | returned u => exact ⟨keep u, by rw [← Act.put_comm a v u h2]; exact he⟩
        | panicked c => exact hQ _ _ _ he
        | outgrown => exact he
      case row row args => exact ⟨h.1, RowsIn.mono h.2 fun u w'' he => ⟨keep u, by rw [← Act.put_comm a v u h2]; exact he⟩⟩
      case round l f tmps assign body =>
        refine ⟨h.1, RoundIn.mono h.2 fun e w'' he => ?_⟩
        cases e with
        | returned u => exact ⟨keep u, by rw [← Act.put_comm a v u h2]; exact he⟩
        | panicked c => exact hQ _ _ _ he
        | outgrown => exact he
    | halt x w' =>
      cases x <;> simp only [Oper.uponIn] at h ⊢
      case panic u => exact hQ _ _ _ h
  · rename_i hw
    simp only [hw] at h
    exact ⟨fun _ _ => trivial, keep _, by rw [← Act.put_comm a v undef h2]; exact h.2⟩

theorem getD_set_ne' {l : Array Bool} {j k : Nat} (d : Bool) (h : j ≠ k) : (l.setIfInBounds j true).getD k d = l.getD k d := by
  simp [Array.getD_eq_getD_getElem?, Array.getElem?_setIfInBounds_ne h]
theorem getD_set_mono {l : Array Bool} {j k : Nat} (h : l.getD k false = true) : (l.setIfInBounds j true).getD k false = true := by
  by_cases hjk : j = k
  · subst hjk
    rcases Nat.lt_or_ge j l.size with h' | h'
    · simp [Array.getD_eq_getD_getElem?, h']
    · simp [Array.getD_eq_getD_getElem?, Array.getElem?_eq_none h'] at h
  · rw [getD_set_ne' _ hjk]; exact h
theorem Live.of_set {listed : Array Bool} {i j : Nat} (h : Live P ops (listed.setIfInBounds j true) i) : Live P ops listed i := fun k ok hk hl => h k ok hk (getD_set_mono hl)
theorem Obl.mono {listed : Array Bool} {j : Nat} {pend : Pend} {w : World} (h : Obl P ops listed pend w) : Obl P ops (listed.setIfInBounds j true) pend w :=
  fun p hp hl => h p hp hl.of_set
theorem Down.set {listed : Array Bool} {j : Nat} (h : Down ops listed) (hj : j ∈ Region.ready .any ops listed) : Down ops (listed.setIfInBounds j true) := by
  intro k o hk hl e he hb
  obtain ⟨_, oj, hoj, hall⟩ := mem_ready.1 hj
  by_cases hjk : j = k
  · subst hjk; rw [hk] at hoj; cases hoj; exact getD_set_mono (hall e he hb)
  · rw [getD_set_ne' _ hjk] at hl; exact getD_set_mono (h k o hk hl e he hb)
theorem not_bef {listed : Array Bool} {i j : Nat} (hD : Down ops listed) (hi : i ∈ Region.ready .any ops listed) (hj : j ∈ Region.ready .any ops listed) (hji : j ≠ i) : ¬ Bef ops j i := fun hb => by
  have h1 := (hD.set hj).bef hb
  have hjl : (listed.setIfInBounds j true).getD j false = true := by
    obtain ⟨hjun, _⟩ := mem_ready.1 hj
    rcases Nat.lt_or_ge j listed.size with h' | h'
    · simp [Array.getD_eq_getD_getElem?, h']
    · simp [Array.getD_eq_getD_getElem?, Array.getElem?_eq_none h'] at hjun
  have h2 := h1 hjl
  rw [getD_set_ne' _ hji] at h2
  have hiun := (mem_ready.1 hi).1
  rcases Nat.lt_or_ge i listed.size with h' | h'
  · simp [h'] at hiun h2; rw [hiun] at h2; cases h2
  · simp [Array.getElem?_eq_none h'] at hiun

theorem wpAnyP_take {i : Nat} {oi : Oper} {s : Sem Next} {v : Value} (hi : ops[i]? = some oi) (hnd : ∀ (j : Nat) (o : Oper), ops[j]? = some o → noDefer o = true) (hqi : quietOp P oi = true)
    (hQ : ∀ c a w, Q (.panic c) (a.put oi.dst v) w → Q (.panic c) a w) (pend pend' : Pend) (hsub : ∀ p ∈ pend, p ∈ pend') :
    ∀ (fuel : Nat) (listed : Array Bool) (a : Act) (w : World),
      (∀ j oj, ops[j]? = some oj → j ≠ i → listed.getD j true = false → (∀ e ∈ oj.after, Region.binds .any e = true → e.on ≠ i) → oi.apart ops oj = true) →
      i ∈ Region.ready .any ops listed → Down ops listed → Live P ops listed i → Obl P ops listed pend w → YA P ops oi s v a w → (Region.wanted oi (yielded ops a.tmps) = true → (i, s, v) ∈ pend') →
      wpAnyP ro P ops Q fuel (listed.setIfInBounds i true) pend' (a.put oi.dst v) w → wpAnyP ro P ops Q (fuel + 1) listed pend a w := by
  have hsi : ∀ cs b, oi.op ≠ .select cs b := fun cs b hc => by have := hnd i oi hi; simp [noDefer, hc] at this
  have weak : ∀ (fuel : Nat) (listed : Array Bool) (a : Act) (w : World), wpAnyP ro P ops Q fuel listed pend' a w → wpAnyP ro P ops Q fuel listed pend a w := by
    intro fuel
    induction fuel with
    | zero => intro listed a w h; exact h
    | succ fuel ih => intro listed a w h; exact ⟨h.1, fun j hj => wpOpIn_mono (fun a' w' h' => ⟨fun p hp => h'.1 p (hsub p hp), ih _ _ _ h'.2⟩) (h.2 j hj)⟩
  intro fuel
  induction fuel with
  | zero =>
    intro listed a w _ hr _ _ hO hy _ H
    refine ⟨fun h => (by rw [h] at hr; cases hr), fun j hj => ?_⟩
    by_cases hji : j = i
    · subst hji; exact hy.wpOp hi (hnd _ _ hi) ⟨hO.mono, weak _ _ _ _ H⟩
    · have := ready_mono hj hji
      rw [H.1] at this
      cases this
  | succ fuel ih =>
    intro listed a w hfree hr hD hL hO hy hp H
    refine ⟨fun h => (by rw [h] at hr; cases hr), fun j hj => ?_⟩
    by_cases hji : j = i
    · subst hji; exact hy.wpOp hi (hnd _ _ hi) ⟨hO.mono, weak _ _ _ _ H⟩
    · have h1 := H.2 j (ready_mono hj hji)
      obtain ⟨hjun, oj, hoj, hall⟩ := mem_ready.1 hj
      have hnot : ∀ e ∈ oj.after, Region.binds .any e = true → e.on ≠ i := fun e he hb heq => by
        have h1 := hall e he hb
        have h0 := (mem_ready.1 hr).1
        rw [heq] at h1
        rcases Nat.lt_or_ge i listed.size with h' | h'
        · simp [h'] at h0 h1; rw [h0] at h1; cases h1
        · simp [Array.getElem?_eq_none h'] at h1
      have h2 := wpOpIn_putP hoj (hfree j oj hoj hji hjun hnot) hsi (hnd _ _ hoj) hQ h1
      have hfree' : ∀ k ok, ops[k]? = some ok → k ≠ i → (listed.setIfInBounds j true).getD k true = false → (∀ e ∈ ok.after, Region.binds .any e = true → e.on ≠ i) → oi.apart ops ok = true := fun k ok hk hki hun hno => by
        refine hfree k ok hk hki ?_ hno
        by_cases hjk : j = k
        · subst hjk; exact hjun
        · rw [getD_set_ne true hjk] at hun; exact hun
      have hLj : Live P ops (listed.setIfInBounds j true) i := fun k ok hk hl hq => by
        by_cases hjk : j = k
        · subst hjk; exact not_bef hD hr hj hji
        · rw [getD_set_ne' _ hjk] at hl; exact hL k ok hk hl hq
      have hset : ∀ p : Nat, Live P ops (listed.setIfInBounds j true) p → Live P ops ((listed.setIfInBounds i true).setIfInBounds j true) p := fun p hl k ok hk hkl hq => by
        by_cases hik : i = k
        · subst hik; rw [hi] at hk; cases hk; rw [hqi] at hq; cases hq
        · rw [Array.setIfInBounds_comm _ _ (Ne.symm hji), getD_set_ne' _ hik] at hkl
          exact hl k ok hk hkl hq
      refine wpOpIn_mono (fun a' w' h3 => ?_) h2
      obtain ⟨⟨e1, e2⟩, hO', H'⟩ := h3
      have hOj : Obl P ops (listed.setIfInBounds j true) pend w' := fun p hp hl => hO' p (hsub p hp) (hset _ hl)
      refine ⟨hOj, ih (listed.setIfInBounds j true) a' w' hfree' (ready_mono hr (Ne.symm hji)) (hD.set hj) hLj hOj ?_ (fun hw => hp (e2 ▸ hw)) ?_⟩
      · rcases hy with ⟨hw, he, hv⟩ | ⟨hw, hv⟩
        · exact .inl ⟨e2.trans hw, e1.trans he, hO' _ (hp hw) (hset _ hLj)⟩
        · exact .inr ⟨e2.trans hw, hv⟩
      · rw [Array.setIfInBounds_comm _ _ hji]
        exact H'

/-! The masks of Region.before tell only true things. -/
theorem before_step {ops : Array Oper} {k : Nat} {o : Oper} (ho : ops[k]? = some o) {acc : Array Nat} (hacc : ∀ (k i : Nat), (acc.getD k 0).testBit i = true → Bef ops k i) :
    ∀ (l : List Edge), (∀ e ∈ l, e ∈ o.after) → ∀ (s : Nat), (∀ i, s.testBit i = true → Bef ops k i) →
      ∀ i, (l.foldl (fun s e => if Region.binds .any e then s ||| 2 ^ e.on ||| acc.getD e.on 0 else s) s).testBit i = true → Bef ops k i
  | [], _, s, hs => hs
  | e :: l, hl, s, hs => by
    have he := hl e (List.mem_cons_self ..)
    refine before_step ho hacc l (fun e' h' => hl e' (List.mem_cons_of_mem _ h')) _ ?_
    intro i hi
    dsimp only at hi
    split at hi
    · rename_i hb
      simp only [Nat.testBit_or, Bool.or_eq_true] at hi
      rcases hi with (hi | hi) | hi
      · exact hs i hi
      · have : e.on = i := by
          rcases Nat.lt_trichotomy e.on i with h | h | h
          · rw [Nat.testBit_two_pow_of_ne (by omega)] at hi; cases hi
          · exact h
          · rw [Nat.testBit_two_pow_of_ne (by omega)] at hi; cases hi
        subst this
        exact .one ho he hb
      · exact .more ho he hb (hacc _ _ hi)
    · exact hs i hi

theorem before_spec {ops : Array Oper} {k i : Nat} (h : ((Region.before ops).getD k 0).testBit i = true) : Bef ops k i := by
  have key : ∀ (l : List Oper) (n : Nat) (acc : Array Nat), acc.size = n → (∀ j, l[j]? = ops[n + j]?) → (∀ (k i : Nat), (acc.getD k 0).testBit i = true → Bef ops k i) →
      ∀ (k i : Nat), ((l.foldl (fun acc o => acc.push (o.after.foldl (fun s e => if Region.binds .any e then s ||| 2 ^ e.on ||| acc.getD e.on 0 else s) 0)) acc).getD k 0).testBit i = true → Bef ops k i := by
    intro l
    induction l with
    | nil => intro n acc _ _ h; exact h
    | cons o l ih =>
      intro n acc hsz hl hacc
      refine ih (n + 1) _ (by simp [hsz]) (fun j => by have := hl (j + 1); simpa [Nat.add_assoc, Nat.add_comm 1 j] using this) ?_
      intro k i hi
      have ho : ops[n]? = some o := by have := hl 0; simpa using this.symm
      by_cases hk : k = n
      · subst hk
        have e : ∀ x, (acc.push x).getD k 0 = x := fun x => by simp [Array.getD_eq_getD_getElem?, ← hsz]
        rw [e, ← Array.foldl_toList] at hi
        exact before_step ho hacc o.after.toList (fun e he => by simpa using he) 0 (fun i h => by simp at h) i hi
      · have e : ∀ x, (acc.push x).getD k 0 = acc.getD k 0 := fun x => by
          simp only [Array.getD_eq_getD_getElem?, Array.getElem?_push]
          rw [if_neg (by omega)]
        rw [e] at hi
        exact hacc k i hi
  unfold Region.before at h
  rw [← Array.foldl_toList] at h
  exact key ops.toList 0 #[] rfl (fun j => by simp) (fun k i h => by simp at h) k i h

/-- What must be read still: by whose number, and what is asked of a world. -/
abbrev Asks := List (Nat × (World → Prop))
def stbs : Asks → World → Prop → Prop
  | [], _, K => K
  | p :: r, w, K => p.2 w ∧ stbs r w K
theorem stbs_spec {pend : Asks} {w : World} {K : Prop} (h : stbs pend w K) : (∀ p ∈ pend, p.2 w) ∧ K := by
  induction pend with
  | nil => exact ⟨fun p hp => by simp at hp, h⟩
  | cons p r ih =>
    obtain ⟨h1, h2⟩ := h
    obtain ⟨h3, h4⟩ := ih h2
    exact ⟨fun q hq => by rcases List.mem_cons.1 hq with rfl | hq; exact h1; exact h3 q hq, h4⟩
def allL {α : Type} (f : α → Prop) : List α → Prop
  | [] => True
  | [x] => f x
  | x :: y :: r => f x ∧ allL f (y :: r)
theorem allL_spec {α : Type} {f : α → Prop} : ∀ {l : List α}, allL f l → ∀ x ∈ l, f x
  | [], _, x, hx => by simp at hx
  | [y], h, x, hx => by simp at hx; subst hx; exact h
  | y :: z :: r, h, x, hx => by
    rcases List.mem_cons.1 hx with rfl | hx
    · exact h.1
    · exact allL_spec h.2 x hx

/-- A region whose order is open: what only reads is taken first, and read again behind each operation that may come up ahead of it. -/
def vcAny (P : Program) (ops : Array Oper) (tb : Array Nat) (Q : Act → World → Prop) : Nat → Array Bool → Asks → Act → World → Prop
  | 0, listed, _, a, w => match Region.ready .any ops listed with | [] => Q a w | _ => False
  | fuel + 1, listed, pend, a, w =>
    match (Region.ready .any ops listed).find? (fun i => (ops[i]?).any (quietOp P)) with
    | some i =>
      match ops[i]? with
      | none => False
      | some o =>
        match o.guard with
        | none =>
          (match o.op with
          | .move x | .assign x => vcAny P ops tb Q fuel (listed.setIfInBounds i true) pend (putA a o.dst (evA a x)) w
          | op => if pureOp op then Pu P (semR (evA a) o) fun v => vcAny P ops tb Q fuel (listed.setIfInBounds i true) pend (putA a o.dst v) w
            else Rd P (semR (evA a) o) w fun v => vcAny P ops tb Q fuel (listed.setIfInBounds i true) ((i, fun w' => Stb P (semR (evA a) o) v w') :: pend) (putA a o.dst v) w)
        | some (j, want) =>
          (match o.op with
          | .move x | .assign x => Gd (slotOf ops j a) want (fun K => K (evA a x) w) w fun v w => vcAny P ops tb Q fuel (listed.setIfInBounds i true) pend (putA a o.dst v) w
          | op => if pureOp op then Gd (slotOf ops j a) want (fun K => Pu P (semR (evA a) o) fun v => K v w) w fun v w => vcAny P ops tb Q fuel (listed.setIfInBounds i true) pend (putA a o.dst v) w
            else Gd (slotOf ops j a) want (fun K => Rd P (semR (evA a) o) w fun v => K v w) w fun v w => vcAny P ops tb Q fuel (listed.setIfInBounds i true) ((i, fun w' => slotOf ops j a = .bool want → Stb P (semR (evA a) o) v w') :: pend) (putA a o.dst v) w)
    | none =>
      match Region.ready .any ops listed with
      | [] => Q a w
      | rs => allL (fun i =>
        match ops[i]? with
        | none => False
        | some o =>
          match o.guard with
          | none => vcOp P o a w fun v w' => stbs (pend.filter fun p => !((tb.getD i 0).testBit p.1)) w' (vcAny P ops tb Q fuel (listed.setIfInBounds i true) (pend.filter fun p => !((tb.getD i 0).testBit p.1)) (putA a o.dst v) w')
          | some (j, want) => Gd (slotOf ops j a) want (fun K => vcOp P o a w K) w fun v w' => stbs (pend.filter fun p => !((tb.getD i 0).testBit p.1)) w' (vcAny P ops tb Q fuel (listed.setIfInBounds i true) (pend.filter fun p => !((tb.getD i 0).testBit p.1)) (putA a o.dst v) w')) rs

/-! The same, 'what has come up' as a mask of bits: for the kernel. -/
def emask (o : Oper) : Nat := o.after.toList.foldl (fun s e => if Region.binds .any e then s ||| 2 ^ e.on else s) 0
def emasks : List Oper → List Nat
  | [] => []
  | o :: l => emask o :: emasks l
/-- The numbers, from k on, of those of a list that may come up. -/
def readyB (m : Nat) : List Nat → Nat → List Nat
  | [], _ => []
  | e :: l, k => match m.testBit k || !(Nat.beq (m &&& e) e) with
    | true => readyB m l (k + 1)
    | false => k :: readyB m l (k + 1)
def quietAt (P : Program) : List Oper → Nat → Bool
  | [], _ => false
  | o :: _, 0 => quietOp P o
  | _ :: l, k + 1 => quietAt P l k
def findB (P : Program) (l : List Oper) : List Nat → Option Nat
  | [] => none
  | k :: r => match quietAt P l k with
    | true => some k
    | false => findB P l r
def operAt : List Oper → Nat → Option Oper
  | [], _ => none
  | o :: _, 0 => some o
  | _ :: l, k + 1 => operAt l k
def keepB (t : Nat) : Asks → Asks
  | [] => []
  | p :: r => match t.testBit p.1 with
    | true => keepB t r
    | false => p :: keepB t r
def natAt : List Nat → Nat → Nat
  | [], _ => 0
  | x :: _, 0 => x
  | _ :: l, k + 1 => natAt l k
def slotB (ops : List Oper) (j : Nat) (a : Act) : Value :=
  match operAt ops j with
  | some o => match o.dst with
    | some d => nthV a.tmps.toList d
    | none => undef
  | none => undef
def vcAnyB (P : Program) (ops : List Oper) (em tb : List Nat) (Q : Act → World → Prop) : Nat → Nat → Asks → Act → World → Prop
  | 0, m, _, a, w => match readyB m em 0 with | [] => Q a w | _ => False
  | fuel + 1, m, pend, a, w =>
    match findB P ops (readyB m em 0) with
    | some i =>
      match operAt ops i with
      | none => False
      | some o =>
        match o.guard with
        | none =>
          (match o.op with
          | .move x | .assign x => vcAnyB P ops em tb Q fuel (m ||| 2 ^ i) pend (putA a o.dst (evA a x)) w
          | op => if pureOp op then Pu P (semR (evA a) o) fun v => vcAnyB P ops em tb Q fuel (m ||| 2 ^ i) pend (putA a o.dst v) w
            else Rd P (semR (evA a) o) w fun v => vcAnyB P ops em tb Q fuel (m ||| 2 ^ i) ((i, fun w' => Stb P (semR (evA a) o) v w') :: pend) (putA a o.dst v) w)
        | some (j, want) =>
          (match o.op with
          | .move x | .assign x => Gd (slotB ops j a) want (fun K => K (evA a x) w) w fun v w => vcAnyB P ops em tb Q fuel (m ||| 2 ^ i) pend (putA a o.dst v) w
          | op => if pureOp op then Gd (slotB ops j a) want (fun K => Pu P (semR (evA a) o) fun v => K v w) w fun v w => vcAnyB P ops em tb Q fuel (m ||| 2 ^ i) pend (putA a o.dst v) w
            else Gd (slotB ops j a) want (fun K => Rd P (semR (evA a) o) w fun v => K v w) w fun v w => vcAnyB P ops em tb Q fuel (m ||| 2 ^ i) ((i, fun w' => slotB ops j a = .bool want → Stb P (semR (evA a) o) v w') :: pend) (putA a o.dst v) w)
    | none =>
      match readyB m em 0 with
      | [] => Q a w
      | rs => allL (fun i =>
        match operAt ops i with
        | none => False
        | some o =>
          match o.guard with
          | none => vcOp P o a w fun v w' => stbs (keepB (natAt tb i) pend) w' (vcAnyB P ops em tb Q fuel (m ||| 2 ^ i) (keepB (natAt tb i) pend) (putA a o.dst v) w')
          | some (j, want) => Gd (slotB ops j a) want (fun K => vcOp P o a w K) w fun v w' => stbs (keepB (natAt tb i) pend) w' (vcAnyB P ops em tb Q fuel (m ||| 2 ^ i) (keepB (natAt tb i) pend) (putA a o.dst v) w')) rs

theorem operAt_eq (l : List Oper) (k : Nat) : operAt l k = l[k]? := by
  induction l generalizing k with
  | nil => rfl
  | cons o l ih => cases k with
    | zero => rfl
    | succ k => simpa [operAt] using ih k
theorem quietAt_eq {P : Program} (l : List Oper) (k : Nat) : quietAt P l k = (l[k]?).any (quietOp P) := by
  induction l generalizing k with
  | nil => rfl
  | cons o l ih => cases k with
    | zero => rfl
    | succ k => simpa [quietAt] using ih k
theorem natAt_eq (l : List Nat) (k : Nat) : natAt l k = l.getD k 0 := by
  induction l generalizing k with
  | nil => rfl
  | cons o l ih => cases k with
    | zero => rfl
    | succ k => simpa [natAt] using ih k
theorem findB_eq {P : Program} (l : List Oper) (r : List Nat) : findB P l r = r.find? (fun i => (l[i]?).any (quietOp P)) := by
  induction r with
  | nil => rfl
  | cons k r ih =>
    simp only [findB, quietAt_eq, List.find?_cons]
    cases (l[k]?).any (quietOp P) <;> simp [ih]
theorem keepB_eq (t : Nat) (p : Asks) : keepB t p = p.filter fun p => !(t.testBit p.1) := by
  induction p with
  | nil => rfl
  | cons q r ih =>
    simp only [keepB, List.filter_cons]
    cases t.testBit q.1 <;> simp [ih]
theorem slotB_eq (ops : List Oper) (j : Nat) (a : Act) : slotB ops j a = slotOf ops.toArray j a := by
  unfold slotB slotOf
  rw [operAt_eq]
  simp only [List.getElem?_toArray]
  cases ops[j]? with
  | none => rfl
  | some o => cases ho : o.dst <;> simp [ho]
/-- The mask and the array tell the same. -/
def Same (n m : Nat) (listed : Array Bool) : Prop := listed.size = n ∧ ∀ k, k < n → listed.getD k false = m.testBit k
theorem Same.set {n m : Nat} {listed : Array Bool} (h : Same n m listed) (i : Nat) : Same n (m ||| 2 ^ i) (listed.setIfInBounds i true) := by
  refine ⟨by simp [h.1], fun k hk => ?_⟩
  rw [Nat.testBit_or]
  by_cases hik : i = k
  · subst hik; simp [Array.getD_eq_getD_getElem?, h.1, hk]
  · rw [getD_set_ne' _ hik, h.2 k hk, Nat.testBit_two_pow_of_ne hik]; simp
theorem emask_spec (o : Oper) (m : Nat) : Nat.beq (m &&& emask o) (emask o) = true ↔ ∀ e ∈ o.after, Region.binds .any e = true → m.testBit e.on = true := by
  have key : ∀ (l : List Edge) (s : Nat), (Nat.beq (m &&& (l.foldl (fun s e => if Region.binds .any e then s ||| 2 ^ e.on else s) s)) (l.foldl (fun s e => if Region.binds .any e then s ||| 2 ^ e.on else s) s) = true ↔ (Nat.beq (m &&& s) s = true ∧ ∀ e ∈ l, Region.binds .any e = true → m.testBit e.on = true)) := by
    intro l
    induction l with
    | nil => intro s; simp
    | cons e l ih =>
      intro s
      simp only [List.foldl_cons, ih, List.forall_mem_cons]
      by_cases hb : Region.binds .any e = true
      · simp only [hb, if_true, forall_const]
        have : Nat.beq (m &&& (s ||| 2 ^ e.on)) (s ||| 2 ^ e.on) = true ↔ Nat.beq (m &&& s) s = true ∧ m.testBit e.on = true := by
          simp only [Nat.beq_eq]
          constructor
          · intro h
            have ht : ∀ i, (m &&& (s ||| 2 ^ e.on)).testBit i = (s ||| 2 ^ e.on).testBit i := fun i => by rw [h]
            refine ⟨Nat.eq_of_testBit_eq fun i => ?_, ?_⟩
            · have := ht i
              simp only [Nat.testBit_and, Nat.testBit_or] at this ⊢
              cases hs : s.testBit i <;> simp [hs] at this ⊢
              exact this
            · have := ht e.on
              simp only [Nat.testBit_and, Nat.testBit_or, Nat.testBit_two_pow_self, Bool.or_true, Bool.and_true] at this
              exact this
          · rintro ⟨h1, h2⟩
            refine Nat.eq_of_testBit_eq fun i => ?_
            have ht : (m &&& s).testBit i = s.testBit i := by rw [h1]
            simp only [Nat.testBit_and, Nat.testBit_or] at ht ⊢
            by_cases hi : e.on = i
            · subst hi; simp [h2]
            · rw [Nat.testBit_two_pow_of_ne hi]; simp [ht]
        rw [this, and_assoc]
      · simp [hb]
  unfold emask
  rw [key]
  simp
theorem readyB_eq {ops : List Oper} {m : Nat} {listed : Array Bool} (h : Same ops.length m listed) (hdom : ∀ o ∈ ops, ∀ e ∈ o.after, Region.binds .any e = true → e.on < ops.length) :
    readyB m (emasks ops) 0 = Region.ready .any ops.toArray listed := by
  have key : ∀ (l : List Oper) (k : Nat), (∀ j, l[j]? = ops[k + j]?) → k + l.length = ops.length →
      readyB m (emasks l) k = (List.range' k l.length).filter fun i => !listed.getD i true && ((ops.toArray[i]?).map (·.after.all fun e => !Region.binds .any e || listed.getD e.on false)).getD false := by
    intro l
    induction l with
    | nil => intro k _ _; rfl
    | cons o l ih =>
      intro k hl hk
      simp only [List.length_cons] at hk
      have ho : ops[k]? = some o := by have := hl 0; simpa using this.symm
      have ih' := ih (k + 1) (fun j => by have := hl (j + 1); simpa [Nat.add_assoc, Nat.add_comm 1 j] using this) (by omega)
      have hkm : m.testBit k = listed.getD k true := by
        have hlt : k < listed.size := by rw [h.1]; omega
        rw [← h.2 k (by omega)]; simp [Array.getD_eq_getD_getElem?, hlt]
      have hcond : (Nat.beq (m &&& emask o) (emask o)) = o.after.all fun e => !Region.binds .any e || listed.getD e.on false := by
        rw [Bool.eq_iff_iff, emask_spec, Array.all_eq_true']
        refine forall_congr' fun e => forall_congr' fun he => ?_
        cases hb : Region.binds .any e with
        | false => simp
        | true =>
          have := h.2 e.on (hdom o (List.mem_of_getElem? ho) e he hb)
          simp only [forall_const, Bool.not_true, Bool.false_or]
          rw [this]
      simp only [emasks, readyB, List.length_cons, List.range'_succ, List.filter_cons, List.getElem?_toArray, ho, Option.map_some, Option.getD_some]
      rw [← hcond, ← hkm, ih']
      cases h1 : m.testBit k <;> cases h2 : Nat.beq (m &&& emask o) (emask o) <;> simp
  have := key ops 0 (fun j => by simp) (by simp)
  rw [this]
  unfold Region.ready
  rw [List.range_eq_range']
  simp
theorem getD_toList (tb : Array Nat) (i : Nat) : tb.toList.getD i 0 = tb.getD i 0 := by simp
theorem vcAnyB_eq {ops : List Oper} {q : Act → World → Prop} {tb : Array Nat} (hdom : ∀ o ∈ ops, ∀ e ∈ o.after, Region.binds .any e = true → e.on < ops.length) :
    ∀ (fuel m : Nat) (listed : Array Bool) (pend : Asks) (a : Act) (w : World), Same ops.length m listed → vcAnyB P ops (emasks ops) tb.toList q fuel m pend a w = vcAny P ops.toArray tb q fuel listed pend a w := by
  intro fuel
  induction fuel with
  | zero => intro m listed pend a w hs; simp only [vcAnyB, vcAny, readyB_eq hs hdom]
  | succ fuel ih =>
    intro m listed pend a w hs
    simp only [vcAnyB, vcAny, readyB_eq hs hdom, findB_eq, operAt_eq, slotB_eq, keepB_eq, natAt_eq, List.getElem?_toArray, fun i pend a w => ih (m ||| 2 ^ i) (listed.setIfInBounds i true) pend a w (hs.set i), getD_toList]

/-- What the text of a region must show: no deferred call, and who is not ordered is apart. -/
def regFree (ops : Array Oper) : Bool :=
  ops.all noDefer && (ops.all fun o => o.after.all fun e => !Region.binds .any e || decide (e.on < ops.size)) && (List.range ops.size).all fun i => (List.range ops.size).all fun j => i == j ||
    (match ops[i]?, ops[j]? with
    | some oi, some oj => oj.after.any (fun e => Region.binds .any e && e.on == i) || oi.after.any (fun e => Region.binds .any e && e.on == j) || oi.apart ops oj
    | _, _ => true)

theorem regFree_nd (h : regFree ops = true) : ∀ (j : Nat) (o : Oper), ops[j]? = some o → noDefer o = true := fun j o hj => by
  simp only [regFree, Bool.and_eq_true, Array.all_eq_true] at h
  obtain ⟨hlt, he⟩ := Array.getElem?_eq_some_iff.1 hj
  have := h.1.1 j hlt
  rw [he] at this; exact this
theorem regFree_dom (h : regFree ops = true) : ∀ o ∈ ops.toList, ∀ e ∈ o.after, Region.binds .any e = true → e.on < ops.toList.length := fun o ho e he hb => by
  simp only [regFree, Bool.and_eq_true] at h
  have h2 := Array.all_eq_true'.1 h.1.2 o (by simpa using ho)
  have h3 := Array.all_eq_true'.1 h2 e he
  simp only [hb, Bool.not_true, Bool.false_or, decide_eq_true_eq] at h3
  simpa using h3
theorem regFree_free (h : regFree ops = true) {i : Nat} {oi : Oper} (hi : ops[i]? = some oi) {listed : Array Bool} (hr : i ∈ Region.ready .any ops listed) :
    ∀ j oj, ops[j]? = some oj → j ≠ i → listed.getD j true = false → (∀ e ∈ oj.after, Region.binds .any e = true → e.on ≠ i) → oi.apart ops oj = true := fun j oj hj hji hun hno => by
  simp only [regFree, Bool.and_eq_true, List.all_eq_true, List.mem_range] at h
  obtain ⟨hlti, _⟩ := Array.getElem?_eq_some_iff.1 hi
  obtain ⟨hltj, _⟩ := Array.getElem?_eq_some_iff.1 hj
  have := h.2 i hlti j hltj
  simp only [hi, hj, Bool.or_eq_true, beq_iff_eq] at this
  rcases this with h1 | (h1 | h1) | h1
  · exact absurd h1.symm hji
  · simp only [Array.any_eq_true', Bool.and_eq_true, beq_iff_eq] at h1
    obtain ⟨e, he, hb, heq⟩ := h1
    exact absurd heq (hno e he hb)
  · simp only [Array.any_eq_true', Bool.and_eq_true, beq_iff_eq] at h1
    obtain ⟨e, he, hb, heq⟩ := h1
    obtain ⟨_, oi', hoi', hall⟩ := mem_ready.1 hr
    rw [hi] at hoi'; cases hoi'
    have h2 := hall e he hb
    rw [heq] at h2
    rcases Nat.lt_or_ge j listed.size with h' | h'
    · simp [h'] at hun h2; rw [hun] at h2; cases h2
    · simp [Array.getElem?_eq_none h'] at h2
  · exact h1

def Rel (P : Program) (ops : Array Oper) (listed : Array Bool) (pend : Asks) (all : Pend) : Prop :=
  ∀ p ∈ all, (∃ q ∈ pend, q.1 = p.1 ∧ ∀ w, q.2 w → Stb P p.2.1 p.2.2 w) ∨ (∀ w, Stb P p.2.1 p.2.2 w) ∨ ¬ Live P ops listed p.1

theorem vcAny_sound {q : Act → World → Prop} (hq : ∀ a w, q a w → Q .normal a w) (hP : ∀ c a w, ¬ Q (.panic c) a w) (hf : regFree ops = true) :
    ∀ (fuel : Nat) (listed : Array Bool) (pend : Asks) (all : Pend) (a : Act) (w : World), Down ops listed → Rel P ops listed pend all → Obl P ops listed all w → (∀ i oi, ops[i]? = some oi → quietOp P oi = true → listed.getD i true = false → Live P ops listed i) →
      vcAny P ops (Region.before ops) q fuel listed pend a w → wpAnyP ro P ops Q fuel listed all a w := by
  intro fuel
  induction fuel with
  | zero =>
    intro listed pend all a w _ _ _ _ h
    simp only [vcAny] at h
    split at h
    · rename_i hr; exact ⟨hr, hq _ _ h⟩
    · exact h.elim
  | succ fuel ih =>
    intro listed pend all a w hD hR hO hLi h
    have hnd := regFree_nd hf
    simp only [vcAny, putA_eq, evA_eq, semR_eq] at h
    split at h
    · rename_i i hfind
      have hir := List.mem_of_find?_eq_some hfind
      have hiq := List.find?_some hfind
      split at h
      · exact h.elim
      · rename_i o ho
        simp only [ho, Option.any_some] at hiq
        have hLive : Live P ops listed i := hLi i o ho hiq (mem_ready.1 hir).1
        have hrel : ∀ {l : Array Bool} {p1 : Asks} {p2 : Pend}, Rel P ops l p1 p2 → Rel P ops (l.setIfInBounds i true) p1 p2 := fun h p hp => (h p hp).imp id (Or.imp id fun h h' => h h'.of_set)
        have hmore : ∀ {l : Array Bool} {p1 : Asks} {p2 : Pend} (x : Nat × (World → Prop)), Rel P ops l p1 p2 → Rel P ops l (x :: p1) p2 := fun x h p hp => (h p hp).imp (fun ⟨q, hq, h⟩ => ⟨q, List.mem_cons_of_mem _ hq, h⟩) id
        have hLi' : ∀ k ok, ops[k]? = some ok → quietOp P ok = true → (listed.setIfInBounds i true).getD k true = false → Live P ops (listed.setIfInBounds i true) k := fun k ok hk hkq hku => by
          have hku' : listed.getD k true = false := by
            by_cases hik : i = k
            · subst hik; exact (mem_ready.1 hir).1
            · rw [getD_set_ne' _ hik] at hku; exact hku
          intro m om hm hml hmq
          by_cases him : i = m
          · subst him; rw [ho] at hm; cases hm; rw [hiq] at hmq; cases hmq
          · rw [getD_set_ne' _ him] at hml; exact hLi k ok hk hkq hku' m om hm hml hmq
        have skipped : ∀ pend', Rel P ops listed pend' all → Region.wanted o (yielded ops a.tmps) = false → vcAny P ops (Region.before ops) q fuel (listed.setIfInBounds i true) pend' (a.put o.dst undef) w → wpAnyP ro P ops Q (fuel + 1) listed all a w := fun pend' hR hw h =>
          wpAnyP_take ho hnd hiq (fun c a w h => absurd h (hP _ _ _)) all all (fun _ h => h) fuel listed a w (regFree_free hf ho hir) hir hD hLive hO (s := .halt .blocked) (v := undef) (.inr ⟨hw, rfl⟩) (fun h => by rw [hw] at h; cases h)
            (ih _ pend' all _ _ (hD.set hir) (hrel hR) hO.mono hLi' h)
        have go : Region.wanted o (yielded ops a.tmps) = true → ∀ (v : Value) (pend' : Asks), Rel P ops listed pend' all → Stb P (execOp a.eval o) v w → ((∃ q ∈ pend', q.1 = i ∧ ∀ w, q.2 w → Stb P (execOp a.eval o) v w) ∨ ∀ w, Stb P (execOp a.eval o) v w) →
              vcAny P ops (Region.before ops) q fuel (listed.setIfInBounds i true) pend' (a.put o.dst v) w → wpAnyP ro P ops Q (fuel + 1) listed all a w := fun hw v pend' hR hs hin h =>
            wpAnyP_take ho hnd hiq (fun c a w h => absurd h (hP _ _ _)) all ((i, execOp a.eval o, v) :: all) (fun _ h => List.mem_cons_of_mem _ h) fuel listed a w (regFree_free hf ho hir) hir hD hLive hO (.inl ⟨hw, rfl, hs⟩) (fun _ => List.mem_cons_self ..)
              (ih _ pend' _ _ _ (hD.set hir)
                (hrel fun p hp => by
                  rcases List.mem_cons.1 hp with rfl | hp
                  · exact hin.imp id .inl
                  · exact hR p hp)
                (fun p hp hl => by
                  rcases List.mem_cons.1 hp with rfl | hp
                  · exact hs
                  · exact hO.mono p hp hl) hLi' h)
        have hmv : ∀ x, (o.op = .move x ∨ o.op = .assign x) → ∀ w, Stb P (execOp a.eval o) (a.eval x) w := fun x hx w => by
          unfold Stb; rw [show execOp a.eval o = pure (.value (a.eval x)) by rcases hx with hx | hx <;> simp [execOp, hx]]; rfl
        have hwT : ∀ j want, o.guard = some (j, want) → slotOf ops j a = .bool want → Region.wanted o (yielded ops a.tmps) = true := fun j want hg hv => by simp only [Region.wanted, hg]; exact yielded_slot.2 hv
        have hwF : ∀ j want, o.guard = some (j, want) → slotOf ops j a ≠ .bool want → Region.wanted o (yielded ops a.tmps) = false := fun j want hg hv => by
          cases hb : Region.wanted o (yielded ops a.tmps) with
          | false => rfl
          | true => simp only [Region.wanted, hg] at hb; exact absurd (yielded_slot.1 hb) hv
        split at h
        · rename_i hg
          have hw : Region.wanted o (yielded ops a.tmps) = true := by simp [Region.wanted, hg]
          split at h
          · rename_i x hx; exact go hw _ pend hR (hmv x (.inl hx) w) (.inr (hmv x (.inl hx))) h
          · rename_i x hx; exact go hw _ pend hR (hmv x (.inr hx) w) (.inr (hmv x (.inr hx))) h
          · split at h
            · obtain ⟨v, hv, h⟩ := h
              have hv' : ∀ w, Stb P (execOp a.eval o) v w := fun w => by unfold Stb; rw [pev_rdev (nval_some hv) w]; rfl
              exact go hw v pend hR (hv' w) (.inr hv') h
            · obtain ⟨v, hv, h⟩ := h
              exact go hw v _ (hmore _ hR) hv (.inl ⟨_, List.mem_cons_self .., rfl, fun _ h => h⟩) h
        · rename_i j want hg
          split at h
          · rename_i x hx
            rcases h with ⟨hv, h⟩ | ⟨hv, h⟩
            · exact go (hwT j want hg hv) _ pend hR (hmv x (.inl hx) w) (.inr (hmv x (.inl hx))) h
            · exact skipped pend hR (hwF j want hg hv) h
          · rename_i x hx
            rcases h with ⟨hv, h⟩ | ⟨hv, h⟩
            · exact go (hwT j want hg hv) _ pend hR (hmv x (.inr hx) w) (.inr (hmv x (.inr hx))) h
            · exact skipped pend hR (hwF j want hg hv) h
          · split at h
            · rcases h with ⟨hv, h⟩ | ⟨hv, h⟩
              · obtain ⟨v, hv1, h⟩ := h
                have hv' : ∀ w, Stb P (execOp a.eval o) v w := fun w => by unfold Stb; rw [pev_rdev (nval_some hv1) w]; rfl
                exact go (hwT j want hg hv) v pend hR (hv' w) (.inr hv') h
              · exact skipped pend hR (hwF j want hg hv) h
            · rcases h with ⟨hv, h⟩ | ⟨hv, h⟩
              · obtain ⟨v, hv1, h⟩ := h
                exact go (hwT j want hg hv) v _ (hmore _ hR) hv1 (.inl ⟨(i, fun w' => slotOf ops j a = .bool want → Stb P (execOp a.eval o) v w'), List.mem_cons_self .., rfl, fun _ h => h hv⟩) h
              · exact skipped _ (hmore _ hR) (hwF j want hg hv) h
    · rename_i hfind
      split at h
      · rename_i hr
        exact ⟨fun _ => hq _ _ h, fun j hj => by rw [hr] at hj; simp at hj⟩
      · rename_i hne
        refine ⟨fun h0 => absurd h0 hne, fun j hj => ?_⟩
        have h := allL_spec h j hj
        have hjq := List.find?_eq_none.1 hfind j hj
        split at h
        · exact h.elim
        · rename_i o ho
          simp only [ho, Option.any_some, Bool.not_eq_true] at hjq
          have hLi' : ∀ k ok, ops[k]? = some ok → quietOp P ok = true → (listed.setIfInBounds j true).getD k true = false → Live P ops (listed.setIfInBounds j true) k := fun k ok hk hkq hku => by
            have hku' : listed.getD k true = false := by
              by_cases hik : j = k
              · subst hik; exact (mem_ready.1 hj).1
              · rw [getD_set_ne' _ hik] at hku; exact hku
            intro m om hm hml hmq hb
            have hbk := (hD.set hj).bef hb hml
            rcases Nat.lt_or_ge k (listed.setIfInBounds j true).size with h' | h'
            · simp [Array.getD_eq_getD_getElem?] at hku hbk; simp [Array.getElem?_eq_getElem h'] at hku hbk; rw [hku] at hbk; cases hbk
            · simp [Array.getD_eq_getD_getElem?, Array.getElem?_eq_none h'] at hbk
          have rest : ∀ (v : Value) (w' : World), stbs (pend.filter fun p => !(((Region.before ops).getD j 0).testBit p.1)) w' (vcAny P ops (Region.before ops) q fuel (listed.setIfInBounds j true) (pend.filter fun p => !(((Region.before ops).getD j 0).testBit p.1)) (a.put o.dst v) w') →
              Obl P ops (listed.setIfInBounds j true) all w' ∧ wpAnyP ro P ops Q fuel (listed.setIfInBounds j true) all (a.put o.dst v) w' := fun v w' h => by
            obtain ⟨h1, h2⟩ := stbs_spec h
            have hjl : (listed.setIfInBounds j true).getD j false = true := by
              obtain ⟨hjun, _⟩ := mem_ready.1 hj
              rcases Nat.lt_or_ge j listed.size with h' | h'
              · simp [Array.getD_eq_getD_getElem?, h']
              · simp [Array.getD_eq_getD_getElem?, Array.getElem?_eq_none h'] at hjun
            have hR' : Rel P ops (listed.setIfInBounds j true) (pend.filter fun p => !(((Region.before ops).getD j 0).testBit p.1)) all := fun p hp => by
              rcases hR p hp with ⟨q, hq, e, hq2⟩ | hp' | hp'
              · cases hb : ((Region.before ops).getD j 0).testBit p.1 with
                | true => exact .inr (.inr fun hl => hl j o ho hjl hjq (before_spec hb))
                | false => exact .inl ⟨q, List.mem_filter.2 ⟨hq, by rw [e, hb]; rfl⟩, e, hq2⟩
              · exact .inr (.inl hp')
              · exact .inr (.inr fun hl => hp' hl.of_set)
            have hO' : Obl P ops (listed.setIfInBounds j true) all w' := fun p hp hl => by
              rcases hR' p hp with ⟨q, hq, _, hq2⟩ | hp' | hp'
              · exact hq2 w' (h1 q hq)
              · exact hp' w'
              · exact absurd hl hp'
            exact ⟨hO', ih _ _ _ _ _ (hD.set hj) hR' hO' hLi' h2⟩
          unfold wpOpIn
          simp only [ho]
          split at h
          · rename_i hg
            have hw : Region.wanted o (yielded ops a.tmps) = true := by simp [Region.wanted, hg]
            simp only [hw, if_true]
            exact nx_wp (hnd _ _ ho) (vcOp_nx h) fun v w' hv => rest v w' hv
          · rename_i k want hg
            rcases h with ⟨hv, h⟩ | ⟨hv, h⟩
            · have hw : Region.wanted o (yielded ops a.tmps) = true := by simp only [Region.wanted, hg]; exact yielded_slot.2 hv
              simp only [hw, if_true]
              exact nx_wp (hnd _ _ ho) (vcOp_nx h) fun v w' hv => rest v w' hv
            · have hw : Region.wanted o (yielded ops a.tmps) = false := by
                cases hb : Region.wanted o (yielded ops a.tmps) with
                | false => rfl
                | true => simp only [Region.wanted, hg] at hb; exact absurd (yielded_slot.1 hb) hv
              simp only [hw, Bool.false_eq_true, if_false]
              exact ⟨fun _ _ => trivial, rest _ _ h⟩
end draw

/-! ### Code -/
def dr (w : World) : World := { w with drawn := w.drawn + 1 }
/-- A loop whose next round begins. -/
def Lp (ro : Option Nat) (P : Program) (c : Code) (Q : Exit → Act → World → Prop) (a : Act) (w : World) : Prop :=
  ∀ (b : Frame) (k : List Item) (cs : List Frame), b.roundOf = (FW ro).round → (FW ro).fn b.fn → (FW ro).room (cs.length + 1 + 0) →
    ∃ e a' w', NP Q e a' w' ∧ ArrivesIn (Machine.fenced P (FW ro)) P (lone (b.atR a (.code c :: .inLoop c :: k)) cs w) b k cs e a' w'
theorem Lp.wpIn {ro : Option Nat} {P : Program} {c : Code} {Q : Exit → Act → World → Prop} {a : Act} {w : World} (h : Lp ro P c Q a w) : (Code.loop c).wpIn (FW ro) 0 P (NP Q) a w :=
  fun b k cs hro hb hr => let ⟨e, a', w', q, r⟩ := h b k cs hro hb hr; ⟨e, a', w', q, .of_steps (.one (fenced_calm hb hr rfl) stepR_loop) r⟩
def Rf (ro : Option Nat) (P : Program) (g : Operand) (ps : Array Tmp) (assign body : Code) (Q : Exit → Act → World → Prop) (a : Act) (w : World) : Prop :=
  (Code.rangeFunc g ps assign body).wpIn (FW ro) 0 P (NP Q) a w
def QScope (Q : Exit → Act → World → Prop) : Exit → Act → World → Prop
  | .goto _, _, _ => False
  | e, a, w => Q e a w

def vc (ro : Option Nat) (P : Program) : Code → (Exit → Act → World → Prop) → Act → World → Prop
  | .skip, Q, a, w => Q .normal a w
  | .region _ ops draw, Q, a, w => match draw with
    | false => vcOps P ops ops.toList (fun a w => Q .normal a w) a w
    | true => vcAnyB P ops.toList (emasks ops.toList) (Region.before ops).toList (fun a w => Q .normal a w) ops.size 0 [] a (dr w)
  | .seq x y, Q, a, w => vc ro P x (Exit.then (fun a w => vc ro P y Q a w) Q) a w
  | .cond c x y, Q, a, w => Cnd (evA a c) (vc ro P x Q a w) (vc ro P y Q a w)
  | .block id c, Q, a, w => vc ro P c (Exit.inBlock id Q) a w
  | .loop c, Q, a, w => Lp ro P c Q a w
  | .rangeFunc g ps assign body, Q, a, w => Rf ro P g ps assign body Q a w
  | .exit id, Q, a, w => Q (.exit id) a w
  | .scope c, Q, a, w => vc ro P c (QScope Q) a w
  | .label _, Q, a, w => Q .normal a w
  | .goto l, Q, a, w => Q (.goto l) a w
  | .ret, Q, a, w => Q .ret a w
  | .refuse _, _, _, _ => False

def codeOk : Code → Bool
  | .region _ ops draw => if draw then regFree ops else ops.all noDefer
  | .seq x y => codeOk x && codeOk y
  | .cond _ x y => codeOk x && codeOk y
  | .block _ c => codeOk c
  | .loop c => codeOk c
  | .scope c => codeOk c
  | .rangeFunc _ _ x y => codeOk x && codeOk y
  | _ => true

section scope
variable {P : Program} {b : Frame} {a : Act} {k : List Item} {cs : List Frame} {w : World}
theorem stepR_scope {c : Code} : step P (lone (b.atR a (.code (.scope c) :: k)) cs w) = .next (lone (b.atR a (.code c :: .inScope c :: k)) cs w) :=
  step_lone_go (by simp [stepG, stepG.exec, Frame.atR])
theorem stepR_inScope {c : Code} : step P (lone (b.atR a (.inScope c :: k)) cs w) = .next (lone (b.atR a k) cs w) :=
  step_lone_go (by simp [stepG, stepG.exec, Frame.atR])
theorem wpIn_scope {F : Fence} {n : Nat} {Q : Exit → Act → World → Prop} {c : Code} (h : c.wpIn F n P (QScope Q) a w) : (Code.scope c).wpIn F n P Q a w := by
  intro b k cs hro hb hr
  have h0 : (lone (b.atR a (.code (.scope c) :: k)) cs w).fenced P F := fenced_calm hb hr rfl
  obtain ⟨e, a₁, w₁, hq, harr⟩ := h b (.inScope c :: k) cs hro hb hr
  cases e with
  | normal => exact ⟨.normal, a₁, w₁, hq, .head h0 stepR_scope (StepsIn.trans harr (.one (fenced_calm hb hr rfl) stepR_inScope))⟩
  | exit id =>
    have hx : exitTo id (.inScope c :: k) = exitTo id k := by simp [exitTo]
    exact ⟨.exit id, a₁, w₁, hq, fun k' hk => .head h0 stepR_scope (harr.1 k' (by rw [hx]; exact hk)),
      fun hr' hk => let ⟨k₁, h1, h2⟩ := harr.2 hr' (by rw [hx]; exact hk); ⟨k₁, h1, .head h0 stepR_scope h2⟩⟩
  | goto l => exact hq.elim
  | ret => exact ⟨_, a₁, w₁, hq, .of_steps (.one h0 stepR_scope) harr⟩
  | panic ch => exact ⟨_, a₁, w₁, hq, .of_steps (.one h0 stepR_scope) harr⟩
  | outgrown => exact ⟨_, a₁, w₁, hq, .of_steps (.one h0 stepR_scope) harr⟩
end scope

theorem vc_sound {ro : Option Nat} {P : Program} (hm : P.follows .mixedOrders = true) : ∀ (c : Code), codeOk c = true → ∀ (Q : Exit → Act → World → Prop) (a : Act) (w : World), vc ro P c Q a w → c.wpIn (FW ro) 0 P (NP Q) a w
  | .skip, _, _, _, _, h => wpIn_skip h
  | .label _, _, _, _, _, h => wpIn_label h
  | .exit _, _, _, _, _, h => wpIn_exit h
  | .goto _, _, _, _, _, h => wpIn_goto h
  | .ret, _, _, _, _, h => wpIn_ret h
  | .refuse _, _, _, _, _, h => h.elim
  | .loop _, _, _, _, _, h => Lp.wpIn h
  | .rangeFunc .., _, _, _, _, h => h
  | .region _ ops false, hok, Q, a, w, h => by
    refine wpIn_region (vcOps_sound (Q := NP Q) (fun _ _ h => h) (List.range ops.size) ops.toList a w ?_ (by simp) ?_ h)
    · intro i
      rcases Nat.lt_or_ge i ops.size with h' | h' <;> simp [h']
    · intro o ho
      simp only [codeOk, Bool.false_eq_true, if_false, Array.all_eq_true'] at hok
      exact hok o (by simpa using ho)
  | .region _ ops true, hok, Q, a, w, h => by
    simp only [codeOk, if_true] at hok
    have hsame : Same ops.toList.length 0 (Array.replicate ops.size false) := ⟨by simp, fun k hk => by
      have hk' : k < ops.size := by simpa using hk
      simp [Array.getD_eq_getD_getElem?, hk']⟩
    have h : vcAnyB P ops.toList (emasks ops.toList) (Region.before ops).toList (fun a w => Q .normal a w) ops.size 0 [] a (dr w) := h
    rw [vcAnyB_eq (regFree_dom hok) _ _ _ _ _ _ hsame] at h
    refine wpIn_region_any hm (wpAny_of_P _ _ [] _ _ (vcAny_sound (Q := NP Q) (fun _ _ h => h) (fun _ _ _ h => h) hok _ _ [] [] _ _ ?_ (fun p hp => by simp at hp) (fun p hp => by simp at hp) ?_ h))
    · intro k o _ hl; simp [Array.getD_eq_getD_getElem?] at hl
      cases hk : (Array.replicate ops.size false)[k]? with
      | none => rw [hk] at hl; simp at hl
      | some b => rw [hk] at hl; simp at hl; subst hl; rw [Array.getElem?_replicate] at hk; split at hk <;> simp at hk
    · intro i oi _ _ _ k ok _ hl _; simp [Array.getD_eq_getD_getElem?] at hl
      cases hk : (Array.replicate ops.size false)[k]? with
      | none => rw [hk] at hl; simp at hl
      | some b => rw [hk] at hl; simp at hl; subst hl; rw [Array.getElem?_replicate] at hk; split at hk <;> simp at hk
  | .seq x y, hok, Q, a, w, h => by
    simp only [codeOk, Bool.and_eq_true] at hok
    refine wpIn_seq (wpIn_mono (vc_sound hm x hok.1 _ a w h) ?_)
    intro e a w he
    cases e <;> first | exact vc_sound hm y hok.2 Q a w he | exact he
  | .cond c x y, hok, Q, a, w, h => by
    simp only [codeOk, Bool.and_eq_true] at hok
    simp only [vc, evA_eq] at h
    rcases h with ⟨hv, h⟩ | ⟨hv, h⟩
    · exact wpIn_cond_true hv (vc_sound hm x hok.1 Q a w h)
    · exact wpIn_cond_false hv (vc_sound hm y hok.2 Q a w h)
  | .block id c, hok, Q, a, w, h => by
    simp only [codeOk] at hok
    refine wpIn_block (wpIn_mono (vc_sound hm c hok _ a w h) ?_)
    intro e a w he
    cases e <;> exact he
  | .scope c, hok, Q, a, w, h => by
    simp only [codeOk] at hok
    refine wpIn_scope (wpIn_mono (vc_sound hm c hok _ a w h) ?_)
    intro e a w he
    cases e <;> exact he

/-- A loop, gone round once more. -/
theorem Lp.unroll {ro : Option Nat} {P : Program} (hm : P.follows .mixedOrders = true) {c : Code} (hok : codeOk c = true) {Q : Exit → Act → World → Prop} {a : Act} {w : World}
    (h : vc ro P c (Exit.then (fun a w => Lp ro P c Q a w) Q) a w) : Lp ro P c Q a w := by
  intro b k cs hro hb hr
  obtain ⟨e, a₁, w₁, hq, harr⟩ := vc_sound hm c hok _ a w h b (.inLoop c :: k) cs hro hb hr
  cases e with
  | normal =>
    obtain ⟨e₂, a₂, w₂, hq₂, harr₂⟩ := hq b k cs hro hb hr
    exact ⟨e₂, a₂, w₂, hq₂, .of_steps (StepsIn.trans harr (.one (fenced_calm hb hr rfl) stepR_inLoop)) harr₂⟩
  | exit id => exact ⟨.exit id, a₁, w₁, hq, .pass (x := .inLoop c) rfl (fun _ _ => .inl (by simp)) harr⟩
  | goto l => exact ⟨.goto l, a₁, w₁, hq, .pass (x := .inLoop c) rfl (fun _ _ => .inl (by simp)) harr⟩
  | ret => exact ⟨.ret, a₁, w₁, hq, .pass (x := .inLoop c) rfl (fun _ _ => .inl (by simp)) harr⟩
  | panic ch => exact hq.elim
  | outgrown => exact hq.elim

/-! ### A function -/
/-- What results hold. -/
def resV (P : Program) (tmps : Array Value) (w : World) (K : Value → World → Prop) : List ResultVar → List Value → Prop
  | [], acc => K (match acc with | [v] => v | l => .tuple l.toArray) w
  | .tmp t :: r, acc => resV P tmps w K r (acc ++ [nthV tmps.toList t])
  | .cell a t :: r, acc => Rd P (do pure (.value (← loadVar t (← asAddr (nthV tmps.toList a))))) w fun v => resV P tmps w K r (acc ++ [v])
def retQ (P : Program) (res : List ResultVar) (K : Value → World → Prop) : Exit → Act → World → Prop
  | .normal, a, w | .ret, a, w => (match a.defers with | [] => resV P a.tmps w K res [] | _ :: _ => False)
  | _, _, _ => False

def rv (tmps : Array Value) : ResultVar → Sem Value
  | .tmp t => pure (tmps.getD t undef)
  | .cell a t => do loadVar t (← asAddr (tmps.getD a undef))
theorem resV_run {P : Program} {tmps : Array Value} {w : World} {K : Value → World → Prop} : ∀ (l : List ResultVar) (acc : List Value), resV P tmps w K l acc →
    ∃ vs : List Value, (l.mapM (rv tmps)).run P w = Result.ok vs w ∧ K (match acc ++ vs with | [v] => v | l => .tuple l.toArray) w
  | [], acc, h => ⟨[], rfl, by simpa [resV] using h⟩
  | .tmp t :: r, acc, h => by
    simp only [resV, nthV_eq, show ∀ d, tmps.toList.getD d undef = tmps.getD d undef from fun d => by simp] at h
    obtain ⟨vs, h1, h2⟩ := resV_run r _ h
    refine ⟨tmps.getD t undef :: vs, ?_, by simpa using h2⟩
    simp [List.mapM_cons, rv, h1]
  | .cell a t :: r, acc, h => by
    simp only [resV, nthV_eq, show ∀ d, tmps.toList.getD d undef = tmps.getD d undef from fun d => by simp] at h
    obtain ⟨v, hv, h⟩ := h
    obtain ⟨vs, h1, h2⟩ := resV_run r _ h
    refine ⟨v :: vs, ?_, by simpa using h2⟩
    have hv' : (rv tmps (.cell a t)).run P w = .ok v w := by
      have hv := rdev_run (nval_some hv)
      simp only [Sem.run_bind, rv] at hv ⊢
      revert hv
      generalize (asAddr (tmps.getD a undef)).run P w = x
      cases x with
      | halt h w => simp [Result.andThen]
      | ok b w2 =>
        simp only [Result.andThen]
        generalize (loadVar t b).run P w2 = y
        cases y <;> simp [Result.andThen]
    rw [List.mapM_cons, Sem.run_bind, hv']
    simp [h1]

theorem fn_of_vc {P : Program} (hm : P.follows .mixedOrders = true) {f : FuncId} {fn : Func} {c : Code} {args : Array Value} {w : World} {K : Value → World → Prop}
    (hf : P.funcs[f]? = some fn) (hb : fn.body = some c) (hn : (fn.name == "runtime.NumGoroutine") = false) (hok : codeOk c = true)
    (h : vc none P c (retQ P fn.results.toList K) ⟨args ++ Array.replicate (fn.ntmps - args.size) undef, []⟩ w) : Fc P f args w K := by
  refine ⟨fun w => ?_, ?_⟩
  · have hn' : ¬ fn.name = "runtime.NumGoroutine" := by simpa using hn
    simp [callFunc, program, Sem.run, bind, Sem.bind, hf, hn', hb, pure]
  · refine callsIn_fw.1 (callsIn_of_wp (F := FW none) (n := 0) hf hb trivial (wpIn_mono (vc_sound hm c hok _ _ _ h) ?_) rfl)
    have key : ∀ a w, retQ P fn.results.toList K .ret a w → bodyPost P fn (fun e w' => ∃ v, e = .returned v ∧ K v w') .ret a w := by
      intro a w h
      simp only [retQ] at h
      split at h
      · rename_i hd
        obtain ⟨vs, h1, h2⟩ := resV_run _ _ h
        refine ⟨hd, _, ?_, _, rfl, h2⟩
        have e : results fn a.tmps = (do let vs ← fn.results.mapM (rv a.tmps); pure (if h : vs.size = 1 then vs[0] else .tuple vs)) := by
          unfold results
          congr 1
        rw [e]
        have e2 : fn.results.mapM (rv a.tmps) = (do let l ← fn.results.toList.mapM (rv a.tmps); pure l.toArray) := by
          rw [Array.mapM_eq_mapM_toList]; rfl
        rw [e2]
        simp only [Sem.run_bind, h1]
        simp only [Result.andThen_ok, Sem.run_pure]
        congr 1
        match vs with
        | [] => rfl
        | [v] => rfl
        | v :: u :: r => simp
      · exact h.elim
    intro e a w h
    cases e with
    | normal => exact key a w h
    | ret => exact key a w h
    | exit id => exact h.elim
    | goto l => exact h.elim
    | panic c => exact h.elim
    | outgrown => exact h.elim

/-! ### Where a loop stands in a function -/
def bodyOf (fn : Func) : Code := fn.body.getD .skip
theorem body_some {fn : Func} (h : fn.body.isSome = true) : fn.body = some (bodyOf fn) := by
  unfold bodyOf; cases hb : fn.body with
  | none => rw [hb] at h; cases h
  | some c => rfl
def ctx (ro : Option Nat) (P : Program) : List Nat → Code → (Exit → Act → World → Prop) → Code × (Exit → Act → World → Prop)
  | [], c, Q => (c, Q)
  | i :: p, .seq x y, Q => match i with | 0 => ctx ro P p x (Exit.then (fun a w => vc ro P y Q a w) Q) | _ => ctx ro P p y Q
  | i :: p, .cond _ x y, Q => match i with | 0 => ctx ro P p x Q | _ => ctx ro P p y Q
  | _ :: p, .block id c, Q => ctx ro P p c (Exit.inBlock id Q)
  | _ :: p, .scope c, Q => ctx ro P p c (QScope Q)
  | _ :: p, .loop c, Q => ctx ro P p c (Exit.then (fun a w => Lp ro P c Q a w) Q)
  | _ :: _, c, Q => (c, Q)
def LpAt (P : Program) (fn : Func) (path : List Nat) (K : Value → World → Prop) (a : Act) (w : World) : Prop :=
  match ctx none P path (bodyOf fn) (retQ P fn.results.toList K) with
  | (.loop c, Q) => Lp none P c Q a w
  | _ => False
def roundV (P : Program) (fn : Func) (path : List Nat) (K : Value → World → Prop) (a : Act) (w : World) : Prop :=
  match ctx none P path (bodyOf fn) (retQ P fn.results.toList K) with
  | (.loop c, Q) => vc none P c (Exit.then (fun a w => Lp none P c Q a w) Q) a w
  | _ => False
def subc : List Nat → Code → Code
  | [], c => c
  | i :: p, .seq x y => match i with | 0 => subc p x | _ => subc p y
  | i :: p, .cond _ x y => match i with | 0 => subc p x | _ => subc p y
  | _ :: p, .block _ c => subc p c
  | _ :: p, .scope c => subc p c
  | _ :: p, .loop c => subc p c
  | _ :: _, c => c
theorem ctx_fst {ro : Option Nat} {P : Program} : ∀ (p : List Nat) (c : Code) (Q : Exit → Act → World → Prop), (ctx ro P p c Q).1 = subc p c
  | [], c, Q => by simp [ctx, subc]
  | i :: p, c, Q => by
    cases c <;> simp only [ctx, subc] <;> first | rfl | (split <;> exact ctx_fst p _ _) | exact ctx_fst p _ _
def okAt (fn : Func) (path : List Nat) : Bool := match subc path (bodyOf fn) with | .loop c => codeOk c | _ => false
theorem lpAt_round {P : Program} (hm : P.follows .mixedOrders = true) {fn : Func} {path : List Nat} {K : Value → World → Prop} {a : Act} {w : World} {V : Prop}
    (hok : okAt fn path = true) (heq : roundV P fn path K a w = V) (h : V) : LpAt P fn path K a w := by
  rw [← heq] at h
  unfold roundV at h
  unfold LpAt
  have hf := ctx_fst (ro := none) (P := P) path (bodyOf fn) (retQ P fn.results.toList K)
  unfold okAt at hok
  rw [← hf] at hok
  generalize ctx none P path (bodyOf fn) (retQ P fn.results.toList K) = x at *
  obtain ⟨c, Q⟩ := x
  cases c <;> simp only at h hok ⊢ <;> first | exact h | skip
  exact Lp.unroll hm hok h
theorem fn_of_eq {P : Program} (hm : P.follows .mixedOrders = true) {f : FuncId} {fn : Func} {args : List Value} {w : World} {K : Value → World → Prop} {V : Prop}
    (hf : P.funcs[f]? = some fn) (hb : fn.body.isSome = true) (hn : (fn.name == "runtime.NumGoroutine") = false) (hok : codeOk (bodyOf fn) = true)
    (heq : vc none P (bodyOf fn) (retQ P fn.results.toList K) ⟨⟨args ++ List.replicate (fn.ntmps - args.length) undef⟩, []⟩ w = V) (h : V) : Fc P f args.toArray w K := by
  refine fn_of_vc hm hf (body_some hb) hn hok ?_
  have e : args.toArray ++ Array.replicate (fn.ntmps - args.toArray.size) undef = ⟨args ++ List.replicate (fn.ntmps - args.length) undef⟩ := by
    apply Array.ext'; simp
  rw [e, heq]; exact h
end Go.Proofs.YthdaccndnfgeeaaGreatDoor.CM
