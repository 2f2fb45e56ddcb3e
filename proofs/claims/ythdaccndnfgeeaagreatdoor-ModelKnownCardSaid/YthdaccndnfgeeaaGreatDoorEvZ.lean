/- Lengths, the smaller and the larger, array pointers, maps. No program in sight. -/
import Derived.Test.YthdaccndnfgeeaaGreatDoorEvY
namespace Go.Proofs.YthdaccndnfgeeaaGreatDoor.CM
open Go
section
variable {P : Program} {ρ : Vl} {B : Nat} {w0 w : World} {h h' : Hp} {n : Nat} {rg : Rg} {a : Act} {call : Cl} {o : Oper} {v : V}
theorem rdev_val {s : Sem Value} {x : Value} (h : rdev P s w = some x) {K : Value → Prop} (hK : K x) : Rd P (do pure (Next.value (← s))) w K := by
  refine ⟨x, ?_, hK⟩
  have e : rdev P (do pure (Next.value (← s))) w = some (.value x) := by rw [rdev_bind, h]; rfl
  rw [e]; rfl
theorem mapOf_sound (H : RH B w0 ρ h w) {x : V} {X : Value} {l : List (Int × V)} (hx : RV ρ x X) (e : mapOf x h = some l) :
    (X = .map none ∧ l = []) ∨ ∃ b r g es clk c, x = .map b ∧ ρ b = some (r, g) ∧ h.blk b = some (.map l c) ∧ X = .map (some r) ∧ bk w r = some (.map es clk) ∧ RM ρ .i64 l es.toList := by
  unfold mapOf at e
  split at e
  · cases e; cases hx; exact .inl ⟨rfl, rfl⟩
  · rename_i b
    split at e
    · rename_i l' c hb
      cases e
      cases hx with
      | map _ r g hρ =>
        obtain ⟨r', g', e2, hk⟩ := H.blk _ _ hb
        rw [hρ] at e2; cases e2
        generalize hw : bk w r = ob at hk
        cases hk with
        | map kk _ es clk clk' hm hk' => subst hk'; exact .inr ⟨b, r, g, es.toArray, clk', c, rfl, hρ, hb, rfl, hw, hm⟩
    · cases e
  · cases e
theorem RM.len {kk : IntKind} {l : List (Int × V)} {es : List MapEntry} (h : RM ρ kk l es) : l.length = es.length := by
  induction h with
  | nil => rfl
  | cons _ _ _ _ _ _ _ _ ih => simp [ih]
inductive LnD (P : Program) (T : TypeId) : LnK → Prop
  | str (h : P.underlying T = some .string) : LnD P T .str
  | arr (m : Nat) (e : TypeId) (h : P.underlying T = some (.array m e)) : LnD P T (.arr m)
  | ptr (m : Nat) (t e : TypeId) (h : P.underlying T = some (.pointer t)) (h' : P.underlying t = some (.array m e)) : LnD P T (.arr m)
  | sl (e : TypeId) (h : P.underlying T = some (.slice e)) : LnD P T .sl
  | map (k e : TypeId) (h : P.underlying T = some (.map k e)) : LnD P T .map
  | no : LnD P T .no
theorem lnT_spec (T : TypeId) : LnD P T (lnT P T) := by
  unfold lnT
  split
  · rename_i h; exact .str h
  · rename_i h; exact .arr _ _ h
  · rename_i t h
    split
    · rename_i h'; exact .ptr _ _ _ h h'
    · exact .no
  · rename_i h; exact .sl _ h
  · rename_i h; exact .map _ _ h
  · exact .no
theorem goV_some {k : Nat} (e : goV k h = some (v, h')) : v = .int .i64 (.ofNat k) ∧ h' = h := by
  obtain ⟨rfl, rfl⟩ := some_pair e; exact ⟨rfl, rfl⟩
theorem len_sound (H : RH B w0 ρ h w) {ts : Array TypeId} {T : TypeId} (h0 : ts[0]? = some T) (ty : TypeId) {x : V} {X : Value} (hx : RV ρ x X) (e : lenK (lnT P T) x h = some (v, h')) :
    Rd P (do pure (Next.value (← Builtin.len_ ts ty #[X]))) w (RV ρ v) ∧ h' = h := by
  have hD := lnT_spec (P := P) T
  generalize lnT P T = c at *
  have arrG : ∀ m, lenK (.arr m) x h = some (v, h') → v = .int .i64 (.ofNat m) ∧ h' = h := fun m e => goV_some e
  unfold lenK at e
  cases hD with
  | str hT =>
    simp only at e
    split at e
    · obtain ⟨rfl, rfl⟩ := goV_some e
      cases hx with
      | str s hs =>
        rw [lenL_eq]
        refine ⟨rdev_val (x := goInt (bytesOf _).size) ?_ (by rw [bytesOf_size]; exact .int _ _), rfl⟩
        simp [Builtin.len_, h0, rdev_bind, rdev_underlying, hT, rdev_pure]
    · cases e
  | arr m el hT =>
    obtain ⟨rfl, rfl⟩ := goV_some e
    refine ⟨rdev_val (x := goInt m) ?_ (.int _ _), rfl⟩
    simp [Builtin.len_, h0, rdev_bind, rdev_underlying, hT, rdev_pure]
  | ptr m t el hT ht =>
    obtain ⟨rfl, rfl⟩ := goV_some e
    refine ⟨rdev_val (x := goInt m) ?_ (.int _ _), rfl⟩
    simp [Builtin.len_, h0, rdev_bind, rdev_underlying, hT, ht, rdev_pure]
  | sl el hT =>
    simp only at e
    unfold lenSl at e
    have go : ∀ (k : Nat) (base : Option Addr) (c : Nat), X = .slice base k c → Rd P (do pure (Next.value (← Builtin.len_ ts ty #[X]))) w (RV ρ (.int .i64 (.ofNat k))) := fun k base c hX => by
      subst hX
      refine rdev_val (x := goInt k) ?_ (.int _ _)
      simp [Builtin.len_, h0, rdev_bind, rdev_underlying, hT, rdev_pure]
    split at e
    · obtain ⟨rfl, rfl⟩ := goV_some e; cases hx; exact ⟨go _ _ _ rfl, rfl⟩
    · obtain ⟨rfl, rfl⟩ := goV_some e; cases hx; exact ⟨go _ _ _ rfl, rfl⟩
    · obtain ⟨rfl, rfl⟩ := goV_some e; cases hx; exact ⟨go _ _ _ rfl, rfl⟩
    · obtain ⟨rfl, rfl⟩ := goV_some e; cases hx; rw [lenL_eq]; exact ⟨go _ _ _ rfl, rfl⟩
    · cases e
  | map k el hT =>
    simp only at e
    split at e
    · rename_i l hl
      obtain ⟨rfl, rfl⟩ := goV_some e
      rw [lenL_eq]
      refine ⟨?_, rfl⟩
      rcases mapOf_sound H hx hl with ⟨rfl, rfl⟩ | ⟨b, r, g, es, clk, c, rfl, hρ, hb, rfl, hw, hm⟩
      · refine rdev_val (x := goInt 0) ?_ (.int _ _)
        simp [Builtin.len_, h0, rdev_bind, rdev_underlying, hT, rdev_pure]
      · refine rdev_val (x := goInt es.size) ?_ (by rw [hm.len]; simp; exact .int _ _)
        have hg : rdev P (getObj r) w = some (.map es clk) := by
          unfold getObj; simp only [rdev]; unfold bk at hw; rw [hw]
        simp [Builtin.len_, h0, rdev_bind, rdev_underlying, hT, rdev_pure, hg]
    · cases e
  | no => cases e
theorem ltB {i j : Int} : (match ltI i j with | true => i | false => j) = if i < j then i else j := by
  rw [ltI_eq]; by_cases h : i < j <;> simp [h]
theorem asInt'_some {u : V} {k : IntKind → Int → Res} {x : V × Hp} (e : asInt' u k = some x) : ∃ j i, u = .int j i ∧ k j i = some x := by
  cases u <;> first | exact ⟨_, _, rfl, e⟩ | cases e
theorem min_sound {ts : Array TypeId} {ty : TypeId} {x y : V} {X Y : Value} (hx : RV ρ x X) (hy : RV ρ y Y) (e : minK x y h = some (v, h')) : Pu P (do pure (Next.value (← Builtin.min_ ts ty #[X, Y]))) (RV ρ v) ∧ h' = h := by
  obtain ⟨k, i, rfl, e2⟩ := asInt'_some e
  obtain ⟨k', j, rfl, e3⟩ := asInt'_some e2
  obtain ⟨rfl, rfl⟩ := some_pair e3
  rw [rv_int hx, rv_int hy]
  refine ⟨(Pu_of (pev_val (v := .int k (if j < i then j else i)) ?_)).mpr ?_, rfl⟩
  · simp [Builtin.min_, Builtin.min2, pev_bind, pev_pure]
  · have : (match ltI j i with | true => j | false => i) = if j < i then j else i := ltB
    rw [← this]; exact .int _ _
theorem max_sound {ts : Array TypeId} {ty : TypeId} {x y : V} {X Y : Value} (hx : RV ρ x X) (hy : RV ρ y Y) (e : maxK x y h = some (v, h')) : Pu P (do pure (Next.value (← Builtin.max_ ts ty #[X, Y]))) (RV ρ v) ∧ h' = h := by
  obtain ⟨k, i, rfl, e2⟩ := asInt'_some e
  obtain ⟨k', j, rfl, e3⟩ := asInt'_some e2
  obtain ⟨rfl, rfl⟩ := some_pair e3
  rw [rv_int hx, rv_int hy]
  refine ⟨(Pu_of (pev_val (v := .int k (if j > i then j else i)) ?_)).mpr ?_, rfl⟩
  · simp [Builtin.max_, Builtin.max2, pev_bind, pev_pure]
  · have : (match ltI i j with | true => j | false => i) = if i < j then j else i := by rw [ltI_eq]; by_cases h : i < j <;> simp [h]
    show RV ρ _ (.int k (if i < j then j else i)); rw [← this]; exact .int _ _
theorem a2p_sound {T : TypeId} {x : V} {X : Value} (hx : RV ρ x X) (e : a2pK (arrLen P T) x h = some (v, h')) : Pu P (a2p T X) (RV ρ v) ∧ h' = h := by
  unfold a2pK at e
  split at e
  · rename_i m hm
    have hT : ∃ el, P.underlying T = some (.array (m + 1) el) := by
      unfold arrLen at hm
      split at hm
      · rename_i hu; cases hm; exact ⟨_, hu⟩
      · cases hm
    obtain ⟨el, hT⟩ := hT
    have go : ∀ (ad : Option Addr) (k c : Nat) (q : Value), X = .slice ad k c → Nat.ble (m + 1) k = true → q = .pointer ad → RV ρ v q → Pu P (a2p T X) (RV ρ v) := fun ad k c q hX hk hq hv => by
      subst hX hq
      have hk := Nat.le_of_ble_eq_true hk
      refine (Pu_of (pev_val (v := .pointer ad) ?_)).mpr hv
      simp only [Instr.arrayAt, pev_bind, pev_underlying, hT, Option.bind_some]
      rw [if_neg (by omega)]; rfl
    split at e
    · rename_i b o k c
      split at e
      · rename_i hk
        obtain ⟨rfl, rfl⟩ := some_pair e
        cases hx with
        | sl _ _ _ _ r g hρ => exact ⟨go _ _ _ _ rfl hk rfl (.ptr _ _ r g hρ), rfl⟩
      · cases e
    · rename_i b o k c
      split at e
      · rename_i hk
        obtain ⟨rfl, rfl⟩ := some_pair e
        cases hx with
        | sg _ _ _ _ r g o' hρ ho hkg =>
          have : o' = o := ho.resolve_right (by have := Nat.le_of_ble_eq_true hk; omega)
          subst this
          exact ⟨go _ _ _ _ rfl hk rfl (.ptr _ _ r g hρ), rfl⟩
      · cases e
    · rename_i r o c es z
      split at e
      · rename_i hk
        obtain ⟨rfl, rfl⟩ := some_pair e
        rw [lenL_eq] at hk
        cases hx with
        | ro _ _ _ _ _ xs hes hz hs hc hW => exact ⟨go _ _ _ _ rfl hk rfl (.rp r o _ xs hes hs hW), rfl⟩
      · cases e
    · cases e
  · cases e

/-! ### Maps -/
theorem mapT_some {T : TypeId} {zv : V} (hs : mapT P T = some zv) : ∃ k e, P.underlying T = some (.map k e) ∧ P.underlying k = some (.int .i64) ∧ zeroV P e = some zv := by
  unfold mapT at hs
  split at hs
  · rename_i k e hu
    split at hs
    · rename_i hk; exact ⟨k, e, hu, hk, hs⟩
    · cases hs
  · cases hs
theorem i64K_some {u : V} {k : Int → Res} {x : V × Hp} (e : i64K u k = some x) : ∃ i, u = .int .i64 i ∧ k i = some x := by
  unfold i64K at e
  split at e
  · exact ⟨_, rfl, e⟩
  · cases e
theorem pev_checkKey {K : TypeId} (hK : P.underlying K = some (.int .i64)) (b : Bool) (i : Int) : pev P (Instr.checkKey b 10000 K (.int .i64 i)) = some () := by
  have : ∀ d, pev P (Instr.checkKey b (d + 1) K (.int .i64 i)) = some () := fun d => by simp [Instr.checkKey, pev_bind, pev_underlying, hK, pev_pure]
  exact this 9999
/-- Where a key stands, and what stands there. -/
inductive Fnd (ρ : Vl) (k : Int) (l : List (Int × V)) (es : List MapEntry) (i : Nat) : Prop
  | no (h1 : mapGet l k = none) (h2 : Instr.findNow (.int .i64) (.int .i64 k) es i = some none) (h3 : ∀ u, mapSet l k u = l ++ [(k, u)]) (h4 : mapDel l k = l)
  | yes (j : Nat) (u : V) (e : MapEntry) (h1 : mapGet l k = some u) (h2 : Instr.findNow (.int .i64) (.int .i64 k) es i = some (some (i + j, e.val))) (h3 : es[j]? = some e) (hu : RV ρ u e.val) (hk : e.key = .int .i64 k)
      (h5 : ∀ u, mapSet l k u = l.modify j (fun p => (p.1, u))) (h6 : mapDel l k = l.eraseIdx j)
theorem mapGet_cons (p : Int × V) (l : List (Int × V)) (k : Int) : mapGet (p :: l) k = match eqI p.1 k with | true => some p.2 | false => mapGet l k := rfl
theorem mapSet_cons (p : Int × V) (l : List (Int × V)) (k : Int) (u : V) : mapSet (p :: l) k u = match eqI p.1 k with | true => (p.1, u) :: l | false => p :: mapSet l k u := rfl
theorem mapDel_cons (p : Int × V) (l : List (Int × V)) (k : Int) : mapDel (p :: l) k = match eqI p.1 k with | true => l | false => p :: mapDel l k := rfl
theorem find_sound (k : Int) : ∀ {l : List (Int × V)} {es : List MapEntry}, RM ρ .i64 l es → ∀ i, Fnd ρ k l es i
  | _, _, .nil, i => .no rfl rfl (fun _ => rfl) rfl
  | _, _, .cons k' v l e es hk hv h, i => by
    by_cases hkk : k' = k
    · subst hkk
      have he : eqI k' k' = true := by rw [eqI_eq]; simp
      refine .yes 0 v e (by rw [mapGet_cons, he]) ?_ rfl hv hk (fun u => by rw [mapSet_cons, he]; rfl) (by rw [mapDel_cons, he]; rfl)
      simp [Instr.findNow, Instr.sameNow, hk]
    · have he : eqI k' k = false := by rw [eqI_eq]; simpa using hkk
      have hf : Instr.findNow (.int .i64) (.int .i64 k) (e :: es) i = Instr.findNow (.int .i64) (.int .i64 k) es (i + 1) := by
        have : (k == k') = false := by simpa using Ne.symm hkk
        simp [Instr.findNow, Instr.sameNow, hk, this]
      cases find_sound k h (i + 1) with
      | no h1 h2 h3 h4 => exact .no (by rw [mapGet_cons, he]; exact h1) (by rw [hf]; exact h2) (fun u => by rw [mapSet_cons, he, h3]; rfl) (by rw [mapDel_cons, he, h4])
      | yes j u e' h1 h2 h3 hu hk' h5 h6 =>
        refine .yes (j + 1) u e' (by rw [mapGet_cons, he]; exact h1) (by rw [hf, h2]; congr 3; omega) (by simpa using h3) hu hk' (fun u => by rw [mapSet_cons, he, h5]; rfl) (by rw [mapDel_cons, he, h6]; rfl)
theorem pev_findKey {K : TypeId} (hK : P.underlying K = some (.int .i64)) {k : Int} {es : List MapEntry} {r : Option (Nat × Value)} (h : Instr.findNow (.int .i64) (.int .i64 k) es 0 = some r) : pev P (Instr.findKey K (.int .i64 k) es) = some r := by
  unfold Instr.findKey
  simp only [pev_bind, pev_underlying, hK, Option.bind_some, h, pev_pure]
theorem lkp_sound (H : RH B w0 ρ h w) {T : TypeId} {x i : V} {X I : Value} {ok : Bool} (hx : RV ρ x X) (hi : RV ρ i I) (e : lkpV (mapT P T) x i ok h = some (v, h')) : Rd P (lkp T X I ok) w (RV ρ v) ∧ h' = h := by
  obtain ⟨k, rfl, e2⟩ := i64K_some e
  clear e
  have e := e2
  clear e2
  split at e
  · rename_i zv l hz hl
    obtain ⟨K, E, hT, hK, hzv⟩ := mapT_some hz
    obtain ⟨z, hz1, hz2, hz3⟩ := pev_zeroValue hzv
    rw [rv_int hi]
    have hes : ∃ es, RM ρ .i64 l es.toList ∧ ((X = .map none ∧ es = #[]) ∨ ∃ r clk, X = .map (some r) ∧ rdev P (getObj r) w = some (.map es clk)) := by
      rcases mapOf_sound H hx hl with ⟨rfl, rfl⟩ | ⟨b, r, g, es, clk, c, rfl, hρ, hb, rfl, hw, hm⟩
      · exact ⟨#[], .nil, .inl ⟨rfl, rfl⟩⟩
      · refine ⟨es, hm, .inr ⟨r, clk, rfl, ?_⟩⟩
        unfold getObj; simp only [rdev]; unfold bk at hw; rw [hw]
    obtain ⟨es, hm, hX⟩ := hes
    have hck := pev_rdev (pev_checkKey hK es.isEmpty k) w
    have fin : ∀ (x : Value) (b : Bool) (r : Option (Nat × Value)), Instr.findNow (.int .i64) (.int .i64 k) es.toList 0 = some r → (match r with | some (_, u) => u = x ∧ b = true | none => x = z ∧ b = false) →
        rdev P (Instr.lookup T X (.int .i64 k) ok) w = some (if ok then .tuple #[x, .bool b] else x) := fun x b r hf hrr => by
      have hfk := pev_rdev (pev_findKey hK hf) w
      have hzr := pev_rdev hz1 w
      unfold Instr.lookup
      rcases hX with ⟨rfl, rfl⟩ | ⟨r0, clk, rfl, hg⟩
      · simp only [rdev_bind, rdev_underlying, hT, Option.bind_some, rdev_pure, hck, hfk]
        cases r with
        | none => obtain ⟨rfl, rfl⟩ := hrr; simp only [rdev_bind, hzr, Option.bind_some, rdev_pure]
        | some p => obtain ⟨j, u⟩ := p; obtain ⟨rfl, rfl⟩ := hrr; simp only [rdev_bind, rdev_pure, Option.bind_some]
      · simp only [rdev_bind, rdev_underlying, hT, Option.bind_some, rdev_pure, hg, hck, hfk]
        cases r with
        | none => obtain ⟨rfl, rfl⟩ := hrr; simp only [rdev_bind, hzr, Option.bind_some, rdev_pure]
        | some p => obtain ⟨j, u⟩ := p; obtain ⟨rfl, rfl⟩ := hrr; simp only [rdev_bind, rdev_pure, Option.bind_some]
    unfold lkpK at e
    cases find_sound k hm 0 with
    | no h1 h2 _ _ =>
      rw [h1] at e
      have := fin z false none h2 ⟨rfl, rfl⟩
      cases ok with
      | true => obtain ⟨rfl, rfl⟩ := some_pair e; exact ⟨rdev_val this (.tup _ _ (.cons _ _ _ _ (hz2 ρ) (.cons _ _ _ _ (.bool _) .nil))), rfl⟩
      | false => obtain ⟨rfl, rfl⟩ := some_pair e; exact ⟨rdev_val this (hz2 ρ), rfl⟩
    | yes j u e' h1 h2 h3 hu _ _ _ =>
      rw [h1] at e
      have := fin e'.val true _ h2 ⟨rfl, rfl⟩
      cases ok with
      | true => obtain ⟨rfl, rfl⟩ := some_pair e; exact ⟨rdev_val this (.tup _ _ (.cons _ _ _ _ hu (.cons _ _ _ _ (.bool _) .nil))), rfl⟩
      | false => obtain ⟨rfl, rfl⟩ := some_pair e; exact ⟨rdev_val this hu, rfl⟩
  · cases e
end
end Go.Proofs.YthdaccndnfgeeaaGreatDoor.CM
