/- Values and memory of the evaluator, and the model's: how they stand to each other. No program in sight. -/
import Derived.Test.YthdaccndnfgeeaaGreatDoorEvT
namespace Go.Proofs.YthdaccndnfgeeaaGreatDoor.CM
open Go

/-- Where a name's block lies, and its room. -/
structure Vl where
  f : Bp → Option (Nat × Nat)
  /-- What was there ahead of the run. -/
  W : Nat → Option Obj
  /-- Blocks that nobody names yet, and that must stay. -/
  K : Nat → Option Obj := fun _ => none
instance : CoeFun Vl fun _ => Bp → Option (Nat × Nat) := ⟨Vl.f⟩
def bytesOf (s : List Nat) : ByteArray := ⟨(s.map UInt8.ofNat).toArray⟩
mutual
inductive RV (ρ : Vl) : V → Value → Prop
  | int (k : IntKind) (n : Int) : RV ρ (.int k n) (.int k n)
  | bool (b : Bool) : RV ρ (.bool b) (.bool b)
  | str (s : List Nat) (h : ∀ x ∈ s, x < 256) : RV ρ (.str s) (.string (bytesOf s))
  | nilp : RV ρ .nilp (.pointer none)
  | ptr (b : Bp) (o r g : Nat) (h : ρ b = some (r, g)) : RV ρ (.ptr b o) (ptr r o)
  | nils : RV ρ .nils (.slice none 0 0)
  | sl (b : Bp) (o n c r g : Nat) (h : ρ b = some (r, g)) : RV ρ (.sl b o n c) (.slice (some ⟨r, o, none⟩) n c)
  | sg (b : Bp) (o n k r g o' : Nat) (h : ρ b = some (r, g)) (ho : o' = o ∨ g = k) (hk : k + n ≤ g) : RV ρ (.sg b o n k) (.slice (some ⟨r, o', none⟩) n (g - k))
  | nilm : RV ρ .nilm (.map none)
  | map (b : Bp) (r g : Nat) (h : ρ b = some (r, g)) : RV ρ (.map b) (.map (some r))
  | nilf : RV ρ .nilf .nilFunc
  | fn (f : FuncId) (l : List V) (cs : List Value) (h : RVs ρ l cs) : RV ρ (.fn f l) (.func (.func f) #[] cs.toArray)
  | agg (l : List V) (cs : List Value) (h : RVs ρ l cs) (hs : cs.all scalarV = true) : RV ρ (.agg l) (.agg cs.toArray)
  | tup (l : List V) (cs : List Value) (h : RVs ρ l cs) : RV ρ (.tup l) (.tuple cs.toArray)
  | ro (r o c : Nat) (es : List V) (z : Nat) (xs : List Value) (h : RVs ρ (cats es) xs) (hz : ∀ e ∈ es, (celV e).length = z) (hs : xs.all scalarV = true) (hc : es.length ≤ c)
      (hW : xs = [] ∨ ∃ c0 T fr, ρ.W r = some (.cells c0 T fr) ∧ (c0.toList.drop o).take xs.length = xs) : RV ρ (.ro r o c es z) (.slice (some ⟨r, o, none⟩) es.length c)
  | rp (r o : Nat) (l : List V) (xs : List Value) (h : RVs ρ l xs) (hs : xs.all scalarV = true)
      (hW : xs = [] ∨ ∃ c0 T fr, ρ.W r = some (.cells c0 T fr) ∧ (c0.toList.drop o).take xs.length = xs) : RV ρ (.rp r o l) (ptr r o)
inductive RVs (ρ : Vl) : List V → List Value → Prop
  | nil : RVs ρ [] []
  | cons (v : V) (x : Value) (l : List V) (xs : List Value) (h : RV ρ v x) (hs : RVs ρ l xs) : RVs ρ (v :: l) (x :: xs)
end
def Ext0 (ρ ρ' : Vl) : Prop := ρ'.W = ρ.W ∧ ∀ b x, ρ b = some x → ρ' b = some x
def Ext (ρ ρ' : Vl) : Prop := (ρ'.W = ρ.W ∧ ρ'.K = ρ.K) ∧ ∀ b x, ρ b = some x → ρ' b = some x
theorem Ext.to0 {ρ ρ' : Vl} (h : Ext ρ ρ') : Ext0 ρ ρ' := ⟨h.1.1, h.2⟩
theorem Ext0.refl (ρ : Vl) : Ext0 ρ ρ := ⟨rfl, fun _ _ h => h⟩
theorem Ext0.trans {a b c : Vl} (h : Ext0 a b) (h' : Ext0 b c) : Ext0 a c := ⟨h'.1.trans h.1, fun _ _ x => h'.2 _ _ (h.2 _ _ x)⟩
theorem Ext.refl (ρ : Vl) : Ext ρ ρ := ⟨⟨rfl, rfl⟩, fun _ _ h => h⟩
theorem Ext.trans {a b c : Vl} (h : Ext a b) (h' : Ext b c) : Ext a c := ⟨⟨h'.1.1.trans h.1.1, h'.1.2.trans h.1.2⟩, fun _ _ x => h'.2 _ _ (h.2 _ _ x)⟩
mutual
theorem RV.mono0 {ρ ρ' : Vl} (e : Ext0 ρ ρ') : ∀ {v : V} {x : Value}, RV ρ v x → RV ρ' v x
  | _, _, .int k n => .int k n
  | _, _, .bool b => .bool b
  | _, _, .str s h => .str s h
  | _, _, .nilp => .nilp
  | _, _, .ptr b o r g h => .ptr b o r g (e.2 _ _ h)
  | _, _, .nils => .nils
  | _, _, .sl b o n c r g h => .sl b o n c r g (e.2 _ _ h)
  | _, _, .sg b o n k r g o' h ho hk => .sg b o n k r g o' (e.2 _ _ h) ho hk
  | _, _, .nilm => .nilm
  | _, _, .map b r g h => .map b r g (e.2 _ _ h)
  | _, _, .nilf => .nilf
  | _, _, .fn f l cs h => .fn f l cs (RVs.mono0 e h)
  | _, _, .agg l cs h hs => .agg l cs (RVs.mono0 e h) hs
  | _, _, .tup l cs h => .tup l cs (RVs.mono0 e h)
  | _, _, .ro r o c es z xs h hz hs hc hW => .ro r o c es z xs (RVs.mono0 e h) hz hs hc (by rw [e.1]; exact hW)
  | _, _, .rp r o l xs h hs hW => .rp r o l xs (RVs.mono0 e h) hs (by rw [e.1]; exact hW)
theorem RVs.mono0 {ρ ρ' : Vl} (e : Ext0 ρ ρ') : ∀ {l : List V} {xs : List Value}, RVs ρ l xs → RVs ρ' l xs
  | _, _, .nil => .nil
  | _, _, .cons v x l xs h hs => .cons v x l xs (RV.mono0 e h) (RVs.mono0 e hs)
end

theorem RV.mono {ρ ρ' : Vl} (e : Ext ρ ρ') {v : V} {x : Value} (h : RV ρ v x) : RV ρ' v x := h.mono0 e.to0
theorem RVs.mono {ρ ρ' : Vl} (e : Ext ρ ρ') {l : List V} {xs : List Value} (h : RVs ρ l xs) : RVs ρ' l xs := h.mono0 e.to0

section
variable {ρ : Vl}
theorem RVs.len {l : List V} {xs : List Value} (h : RVs ρ l xs) : l.length = xs.length := by
  induction l generalizing xs with
  | nil => cases h; rfl
  | cons v l ih => cases h with | cons _ x _ xs h hs => simp [ih hs]
theorem RVs.get {l : List V} {xs : List Value} (h : RVs ρ l xs) {i : Nat} {v : V} (hv : l[i]? = some v) : ∃ x, xs[i]? = some x ∧ RV ρ v x := by
  induction l generalizing xs i with
  | nil => simp at hv
  | cons u l ih =>
    cases h with
    | cons _ x _ xs h hs =>
      cases i with
      | zero => simp only [List.getElem?_cons_zero, Option.some.injEq] at hv; subst hv; exact ⟨x, rfl, h⟩
      | succ i => exact ih hs (by simpa using hv)
theorem RVs.app {l m : List V} {xs ys : List Value} (h : RVs ρ l xs) (h' : RVs ρ m ys) : RVs ρ (l ++ m) (xs ++ ys) := by
  induction l generalizing xs with
  | nil => cases h; exact h'
  | cons u l ih => cases h with | cons _ x _ xs h hs => exact .cons _ _ _ _ h (ih hs)
theorem RVs.take {l : List V} {xs : List Value} (h : RVs ρ l xs) (n : Nat) : RVs ρ (l.take n) (xs.take n) := by
  induction l generalizing xs n with
  | nil => cases h; simp; exact .nil
  | cons u l ih =>
    cases h with
    | cons _ x _ xs h hs => cases n with
      | zero => exact .nil
      | succ n => exact .cons _ _ _ _ h (ih hs n)
theorem RVs.drop {l : List V} {xs : List Value} (h : RVs ρ l xs) (n : Nat) : RVs ρ (l.drop n) (xs.drop n) := by
  induction l generalizing xs n with
  | nil => cases h; simp; exact .nil
  | cons u l ih =>
    cases n with
    | zero => exact h
    | succ n => cases h with | cons _ x _ xs h hs => exact ih hs n
theorem RVs.set {l : List V} {xs : List Value} (h : RVs ρ l xs) (i : Nat) {v : V} {x : Value} (hv : RV ρ v x) : RVs ρ (l.set i v) (xs.set i x) := by
  induction l generalizing xs i with
  | nil => cases h; exact .nil
  | cons u l ih =>
    cases h with
    | cons _ y _ xs h hs => cases i with
      | zero => exact .cons _ _ _ _ hv hs
      | succ i => exact .cons _ _ _ _ h (ih hs i)
theorem RVs.rep {v : V} {x : Value} (h : RV ρ v x) (n : Nat) : RVs ρ (List.replicate n v) (List.replicate n x) := by
  induction n with
  | zero => exact .nil
  | succ n ih => exact .cons _ _ _ _ h ih
theorem RVs.split {l m : List V} {xs : List Value} (h : RVs ρ (l ++ m) xs) : ∃ a b, xs = a ++ b ∧ RVs ρ l a ∧ RVs ρ m b := by
  induction l generalizing xs with
  | nil => exact ⟨[], xs, rfl, .nil, h⟩
  | cons u l ih =>
    cases h with
    | cons _ x _ xs h hs =>
      obtain ⟨a, b, rfl, ha, hb⟩ := ih hs
      exact ⟨x :: a, b, rfl, .cons _ _ _ _ h ha, hb⟩
/-- The cells of a value. -/
theorem RV.cells {v : V} {x : Value} (h : RV ρ v x) : RVs ρ (celV v) (CM.cells x) ∨ ∃ l, v = .tup l := by
  cases h <;> first
    | exact .inr ⟨_, rfl⟩
    | (left; simp only [celV, CM.cells, Value.cells]; first | assumption | exact .cons _ _ _ _ (by constructor <;> assumption) .nil | exact .cons _ _ _ _ (by constructor) .nil)
theorem RV.scal {v : V} {x : Value} (h : RV ρ v x) : (CM.cells x).all scalarV = true ∨ ∃ l, v = .tup l := by
  cases h <;> first
    | exact .inr ⟨_, rfl⟩
    | (left; simp only [CM.cells, Value.cells]; first | assumption | rfl)
end

/-! ### Memory -/
inductive RM (ρ : Vl) (kk : IntKind) : List (Int × V) → List MapEntry → Prop
  | nil : RM ρ kk [] []
  | cons (k : Int) (v : V) (l : List (Int × V)) (e : MapEntry) (es : List MapEntry) (hk : e.key = .int kk k) (hv : RV ρ v e.val) (h : RM ρ kk l es) : RM ρ kk ((k, v) :: l) (e :: es)
theorem RM.mono {ρ ρ' : Vl} {kk : IntKind} (e : Ext0 ρ ρ') {l : List (Int × V)} {es : List MapEntry} (h : RM ρ kk l es) : RM ρ' kk l es := by
  induction h with
  | nil => exact .nil
  | cons k v l e' es hk hv _ ih => exact .cons k v l e' es hk (hv.mono0 e) ih
/-- A row whose frozen part lies behind its cells. -/
def clf (c : List Value) (T : TypeId) (fr : Nat × Nat) : Obj := .cells c.toArray T fr
def frOk (fr : Nat × Nat) (n : Nat) : Prop := (fr.1 = 0 ∧ fr.2 = 0) ∨ n ≤ fr.1
inductive RB (ρ : Vl) (g : Nat) : Bk → Option Obj → Prop
  | cells (es : List V) (z : Nat) (c : List Value) (T : TypeId) (h : RVs ρ (cats es) c) (hz : ∀ e ∈ es, (celV e).length = z) (hs : c.all scalarV = true) (fr : Nat × Nat) (hf : frOk fr c.length) : RB ρ g (.cells es z) (some (clf c T fr))
  | grow (es : List V) (z : Nat) (c post : List Value) (T : TypeId) (h : RVs ρ (cats es) c) (hz : ∀ e ∈ es, (celV e).length = z) (hs : (c ++ post).all scalarV = true) (hl : (c ++ post).length = g * z) (hg : es.length ≤ g) (fr : Nat × Nat) (hf : frOk fr (c ++ post).length) : RB ρ g (.grow es z) (some (clf (c ++ post) T fr))
  | map (kk : IntKind) (l : List (Int × V)) (es : List MapEntry) (clk clk' : Nat) (h : RM ρ kk l es) (hk : kk = .i64) : RB ρ g (.map l clk) (some (.map es.toArray clk'))
  | dead (o : Option Obj) : RB ρ g .dead o
theorem RB.mono0 {ρ ρ' : Vl} {g : Nat} (e : Ext0 ρ ρ') {k : Bk} {o : Option Obj} (h : RB ρ g k o) : RB ρ' g k o := by
  cases h with
  | cells es z c T h hz hs fr hf => exact .cells es z c T (h.mono0 e) hz hs fr hf
  | grow es z c post T h hz hs hl hg fr hf => exact .grow es z c post T (h.mono0 e) hz hs hl hg fr hf
  | map kk l es clk clk' h hk => exact .map kk l es clk clk' (h.mono e) hk
  | dead => exact .dead _
theorem RB.mono {ρ ρ' : Vl} {g : Nat} (e : Ext ρ ρ') {k : Bk} {o : Option Obj} (h : RB ρ g k o) : RB ρ' g k o := h.mono0 e.to0
def Liv (h : Hp) (b : Bp) : Prop := ∃ k, h.blk b = some k ∧ k ≠ .dead
/-- What a world has but memory and tape. -/
def outs (w : World) : Os × Array (Nat × ByteArray) × (Nat → Question → Nat) := (w.os, w.output, w.tape)
structure RH (B : Nat) (w0 : World) (ρ : Vl) (h : Hp) (w : World) : Prop where
  blk : ∀ b k, h.blk b = some k → ∃ r g, ρ b = some (r, g) ∧ RB ρ g k (bk w r)
  inj : ∀ a b r g g', ρ a = some (r, g) → ρ b = some (r, g') → Liv h a → Liv h b → a = b
  fresh : ∀ b x, ρ b = some x → b.num < h.nx.num
  low : ∀ b r g, ρ b = some (r, g) → B ≤ r ∧ r < sz w
  old : ∀ b, b < B → bk w b = bk w0 b
  size : B ≤ sz w
  ro : ∀ r o, ρ.W r = some o → r < B ∧ bk w0 r = some o
  io : outs w = outs w0
  kp : ∀ r o, ρ.K r = some o → B ≤ r ∧ r < sz w ∧ bk w r = some o ∧ ∀ b g, ρ b ≠ some (r, g)
theorem RH.cong {B : Nat} {w0 : World} {ρ : Vl} {h : Hp} {w w' : World} (H : RH B w0 ρ h w) (hb : ∀ b, bk w' b = bk w b) (hs : sz w' = sz w) (hio : outs w' = outs w) : RH B w0 ρ h w' :=
  ⟨fun b k hk => by obtain ⟨r, g, h1, h2⟩ := H.blk b k hk; exact ⟨r, g, h1, by rw [hb]; exact h2⟩, H.inj, H.fresh, fun b r g h => by rw [hs]; exact H.low b r g h, fun b h => by rw [hb]; exact H.old b h, by rw [hs]; exact H.size, H.ro, hio.trans H.io, fun r o h => by rw [hs, hb]; exact H.kp r o h⟩
theorem setB_stamp (h : Hp) (b : Bp) (k : Bk) (a : Bp) : stamp (setB h b k) a = if b = a then stamp h b + 1 else stamp h a := by
  show (match (h.w.put b (stamp h b + 1)).get a with | some n => n | none => 0) = _
  rw [Tr.get_put]
  by_cases e : b = a
  · rw [if_pos e, if_pos e]
  · rw [if_neg e, if_neg e]; rfl
theorem setB_nx (h : Hp) (b : Bp) (k : Bk) : (setB h b k).nx = h.nx := rfl
theorem blk_put (h : Hp) (b : Bp) (k : Bk) (a : Bp) : (setB h b k).blk a = if b = a then some k else h.blk a := Tr.get_put b a h.m k
theorem blk_new (h : Hp) (k : Bk) (a : Bp) : (newB h k).blk a = if h.nx = a then some k else h.blk a := Tr.get_put h.nx a h.m k
open Classical in
noncomputable def ρput (ρ : Vl) (b : Bp) (x : Nat × Nat) : Vl := ⟨fun a => if a = b then some x else ρ a, ρ.W, ρ.K⟩
theorem ρput_eq (ρ : Vl) (b : Bp) (x : Nat × Nat) : ρput ρ b x b = some x := if_pos rfl
theorem ρput_ne (ρ : Vl) (b : Bp) (x : Nat × Nat) {a : Bp} (h : a ≠ b) : ρput ρ b x a = ρ a := if_neg h
theorem RH.new_ext {B : Nat} {w0 : World} {ρ : Vl} {h : Hp} {w : World} (H : RH B w0 ρ h w) (x : Nat × Nat) : Ext ρ (ρput ρ h.nx x) := ⟨⟨rfl, rfl⟩, fun b y hy => by
  by_cases e : b = h.nx
  · subst e; exact absurd (H.fresh _ _ hy) (Nat.lt_irrefl _)
  · rw [ρput_ne _ _ _ e]; exact hy⟩
/-- A block more. -/
theorem RH.alloc {B : Nat} {w0 : World} {ρ : Vl} {h : Hp} {w : World} (H : RH B w0 ρ h w) (k : Bk) (o : Obj) (g : Nat) (hk : RB ρ g k (some o)) :
    RH B w0 (ρput ρ h.nx (sz w, g)) (newB h k) (w.alloc o) := by
  have ext := H.new_ext (sz w, g)
  refine ⟨fun b k' hb => ?_, fun a b r g1 g2 ha hb la lb => ?_, fun b x hb => ?_, fun b r g' hb => ?_, fun b hb => ?_, ?_, H.ro, H.io, fun r o' hr => ?_⟩
  · rw [blk_new] at hb
    split at hb
    · rename_i e; subst e; cases hb
      exact ⟨sz w, g, ρput_eq _ _ _, by rw [bk_alloc, if_pos rfl]; exact hk.mono ext⟩
    · obtain ⟨r, g', h1, h2⟩ := H.blk b k' hb
      have hr := (H.low _ _ _ h1).2
      exact ⟨r, g', ext.2 _ _ h1, by rw [bk_alloc, if_neg (by omega)]; exact h2.mono ext⟩
  · have key : ∀ {c : Bp} {r g'}, ρput ρ h.nx (sz w, g) c = some (r, g') → (c = h.nx ∧ r = sz w) ∨ (c ≠ h.nx ∧ ρ c = some (r, g') ∧ r < sz w) := fun {c r g'} hc => by
      by_cases e : c = h.nx
      · subst e; rw [ρput_eq] at hc; cases hc; exact .inl ⟨rfl, rfl⟩
      · rw [ρput_ne _ _ _ e] at hc; exact .inr ⟨e, hc, (H.low _ _ _ hc).2⟩
    have lv : ∀ {c : Bp}, c ≠ h.nx → Liv (newB h k) c → Liv h c := fun {c} e ⟨k', h1, h2⟩ => ⟨k', by rw [blk_new, if_neg (Ne.symm e)] at h1; exact h1, h2⟩
    rcases key ha with ⟨rfl, ea⟩ | ⟨na, ha', la'⟩ <;> rcases key hb with ⟨rfl, eb⟩ | ⟨nb, hb', lb'⟩
    · rfl
    · omega
    · omega
    · exact H.inj a b r g1 g2 ha' hb' (lv na la) (lv nb lb)
  · show b.num < h.nx.succ.num
    rw [Bp.num_succ]
    by_cases e : b = h.nx
    · subst e; omega
    · rw [ρput_ne _ _ _ e] at hb; have := H.fresh _ _ hb; omega
  · rw [sz_alloc]
    by_cases e : b = h.nx
    · subst e; rw [ρput_eq] at hb; cases hb; exact ⟨H.size, by omega⟩
    · rw [ρput_ne _ _ _ e] at hb; have := H.low _ _ _ hb; omega
  · rw [bk_alloc, if_neg (by have := H.size; omega)]; exact H.old b hb
  · rw [sz_alloc]; have := H.size; omega
  · obtain ⟨k0, k1, k2, k3⟩ := H.kp r o' hr
    refine ⟨k0, by rw [sz_alloc]; omega, by rw [bk_alloc, if_neg (by omega)]; exact k2, fun b g' hb => ?_⟩
    by_cases e : b = h.nx
    · subst e; rw [ρput_eq] at hb; cases hb; omega
    · rw [ρput_ne _ _ _ e] at hb; exact k3 _ _ hb
/-- A block turned. -/
theorem RH.turn {B : Nat} {w0 : World} {ρ : Vl} {h : Hp} {w w' : World} (H : RH B w0 ρ h w) {b : Bp} {r g : Nat} {k k' : Bk} (hb : h.blk b = some k) (hl : k ≠ .dead) (hρ : ρ b = some (r, g)) (hw : ∀ r', r' ≠ r → bk w' r' = bk w r') (hs : sz w' = sz w) (hio : outs w' = outs w)
    (hk : RB ρ g k' (bk w' r)) : RH B w0 ρ (setB h b k') w' := by
  have live : ∀ {c : Bp}, Liv (setB h b k') c → Liv h c := fun {c} ⟨k2, h1, h2⟩ => by
    rw [blk_put] at h1
    split at h1
    · rename_i e; subst e; exact ⟨k, hb, hl⟩
    · exact ⟨k2, h1, h2⟩
  refine ⟨fun c k2 hc => ?_, fun a c r' g1 g2 ha hc la lc => H.inj a c r' g1 g2 ha hc (live la) (live lc), H.fresh, fun c r' g' hc => by rw [hs]; exact H.low c r' g' hc, fun c hc => ?_, by rw [hs]; exact H.size, H.ro, hio.trans H.io, fun r' o hr => ?_⟩
  · rw [blk_put] at hc
    split at hc
    · rename_i e; subst e; cases hc; exact ⟨r, g, hρ, hk⟩
    · rename_i e
      obtain ⟨r2, g2, h1, h2⟩ := H.blk c k2 hc
      refine ⟨r2, g2, h1, ?_⟩
      cases k2 with
      | dead => exact .dead _
      | _ =>
        have : r2 ≠ r := fun e2 => by subst e2; exact e (H.inj b c r2 g g2 hρ h1 ⟨k, hb, hl⟩ ⟨_, hc, by simp⟩)
        rw [hw _ this]; exact h2
  · have := (H.low b r g hρ).1
    rw [hw c (by omega)]; exact H.old c hc
  · obtain ⟨k0, k1, k2, k3⟩ := H.kp r' o hr
    have hne : r' ≠ r := fun e => by subst e; exact k3 _ _ hρ
    exact ⟨k0, by rw [hs]; exact k1, by rw [hw _ hne]; exact k2, k3⟩
/-- A block that nobody names yet stays. -/
def protect (ρ : Vl) (r : Nat) (o : Obj) : Vl := ⟨ρ.f, ρ.W, fun q => if q = r then some o else ρ.K q⟩
def unprotect (ρ : Vl) (r : Nat) : Vl := ⟨ρ.f, ρ.W, fun q => if q = r then none else ρ.K q⟩
theorem protect_ext0 (ρ : Vl) (r : Nat) (o : Obj) : Ext0 ρ (protect ρ r o) := ⟨rfl, fun _ _ h => h⟩
theorem unprotect_ext0 (ρ : Vl) (r : Nat) : Ext0 ρ (unprotect ρ r) := ⟨rfl, fun _ _ h => h⟩
theorem RH.protect {B : Nat} {w0 : World} {ρ : Vl} {h : Hp} {w : World} (H : RH B w0 ρ h w) (o : Obj) : RH B w0 (protect ρ (sz w) o) h (w.alloc o) := by
  refine ⟨fun b k hb => ?_, H.inj, H.fresh, fun b r g hb => ?_, fun b hb => ?_, ?_, H.ro, H.io, fun r o' hr => ?_⟩
  · obtain ⟨r, g, h1, h2⟩ := H.blk b k hb
    have := (H.low _ _ _ h1).2
    exact ⟨r, g, h1, by rw [bk_alloc, if_neg (by omega)]; exact h2.mono0 (protect_ext0 ..)⟩
  · have := H.low b r g hb; rw [sz_alloc]; exact ⟨this.1, by omega⟩
  · rw [bk_alloc, if_neg (by have := H.size; omega)]; exact H.old b hb
  · rw [sz_alloc]; have := H.size; omega
  · change (if r = sz w then some o else ρ.K r) = some o' at hr
    split at hr
    · rename_i e; subst e; cases hr
      exact ⟨H.size, by rw [sz_alloc]; omega, by rw [bk_alloc, if_pos rfl], fun b g hb => by have := (H.low b _ g hb).2; omega⟩
    · obtain ⟨k0, k1, k2, k3⟩ := H.kp r o' hr
      exact ⟨k0, by rw [sz_alloc]; omega, by rw [bk_alloc, if_neg (by omega)]; exact k2, k3⟩
/-- It is named. -/
theorem RH.adopt {B : Nat} {w0 : World} {ρ : Vl} {h : Hp} {w : World} (H : RH B w0 ρ h w) {r g : Nat} {o : Obj} {k : Bk} (hK : ρ.K r = some o) (hk : RB ρ g k (some o)) :
    RH B w0 (ρput (unprotect ρ r) h.nx (r, g)) (newB h k) w := by
  obtain ⟨k0, k1, k2, k3⟩ := H.kp r o hK
  have hfresh : ∀ x, ρ h.nx ≠ some x := fun x hx => Nat.lt_irrefl _ (H.fresh _ _ hx)
  have ext : Ext0 ρ (ρput (unprotect ρ r) h.nx (r, g)) := ⟨rfl, fun b y hy => by
    by_cases e : b = h.nx
    · subst e; exact absurd hy (hfresh _)
    · rw [ρput_ne _ _ _ e]; exact hy⟩
  have key : ∀ {c : Bp} {x}, ρput (unprotect ρ r) h.nx (r, g) c = some x → (c = h.nx ∧ x = (r, g)) ∨ (c ≠ h.nx ∧ ρ c = some x) := fun {c x} hc => by
    by_cases e : c = h.nx
    · subst e; rw [ρput_eq] at hc; cases hc; exact .inl ⟨rfl, rfl⟩
    · rw [ρput_ne _ _ _ e] at hc; exact .inr ⟨e, hc⟩
  have lv : ∀ {c : Bp}, c ≠ h.nx → Liv (newB h k) c → Liv h c := fun {c} e ⟨k', h1, h2⟩ => ⟨k', by rw [blk_new, if_neg (Ne.symm e)] at h1; exact h1, h2⟩
  refine ⟨fun b k' hb => ?_, fun a b r' g1 g2 ha hb la lb => ?_, fun b x hb => ?_, fun b r' g' hb => ?_, H.old, H.size, H.ro, H.io, fun r' o' hr => ?_⟩
  · rw [blk_new] at hb
    split at hb
    · rename_i e; subst e; cases hb
      exact ⟨r, g, ρput_eq _ _ _, by rw [k2]; exact hk.mono0 ext⟩
    · obtain ⟨r', g', h1, h2⟩ := H.blk b k' hb
      exact ⟨r', g', ext.2 _ _ h1, h2.mono0 ext⟩
  · rcases key ha with ⟨rfl, ea⟩ | ⟨na, ha'⟩ <;> rcases key hb with ⟨rfl, eb⟩ | ⟨nb, hb'⟩
    · rfl
    · cases ea; exact absurd hb' (k3 _ _)
    · cases eb; exact absurd ha' (k3 _ _)
    · exact H.inj a b r' g1 g2 ha' hb' (lv na la) (lv nb lb)
  · show b.num < h.nx.succ.num
    rw [Bp.num_succ]
    rcases key hb with ⟨rfl, _⟩ | ⟨_, hb⟩
    · omega
    · have := H.fresh _ _ hb; omega
  · rcases key hb with ⟨_, e⟩ | ⟨_, hb⟩
    · cases e; exact ⟨k0, k1⟩
    · exact H.low _ _ _ hb
  · change (if r' = r then none else ρ.K r') = some o' at hr
    split at hr
    · cases hr
    · rename_i hne
      obtain ⟨q0, q1, q2, q3⟩ := H.kp r' o' hr
      refine ⟨q0, q1, q2, fun b g' hb => ?_⟩
      rcases key hb with ⟨_, e⟩ | ⟨_, hb⟩
      · cases e; exact hne rfl
      · exact q3 _ _ hb
end Go.Proofs.YthdaccndnfgeeaaGreatDoor.CM
