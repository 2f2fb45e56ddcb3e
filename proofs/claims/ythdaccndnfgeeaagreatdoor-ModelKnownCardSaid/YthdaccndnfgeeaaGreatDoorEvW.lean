/- Conversions, lengths, the smaller and the larger, array pointers. No program in sight. -/
import Derived.Test.YthdaccndnfgeeaaGreatDoorEvV
namespace Go.Proofs.YthdaccndnfgeeaaGreatDoor.CM
open Go
section
variable {P : Program} {ρ : Vl} {B : Nat} {w0 w : World} {h h' : Hp} {n : Nat} {rg : Rg} {a : Act} {call : Cl} {o : Oper} {v : V}
theorem isU8_some {e : TypeId} (h : isU8 P e = true) : P.underlying e = some (.int .u8) := by
  unfold isU8 at h
  split at h
  · assumption
  · cases h
inductive CvD (P : Program) (s d : TypeId) : CvK → Prop
  | int (k : IntKind) (S : TypeDesc) (hs : P.underlying s = some S) (hd : P.underlying d = some (.int k)) : CvD P s d (.int k)
  | str (hs : P.underlying s = some .string) (hd : P.underlying d = some .string) : CvD P s d .str
  | text (e : TypeId) (hs : P.underlying s = some (.slice e)) (he : P.underlying e = some (.int .u8)) (hd : P.underlying d = some .string) : CvD P s d .text
  | bytes (e : TypeId) (hs : P.underlying s = some .string) (hd : P.underlying d = some (.slice e)) (he : P.underlying e = some (.int .u8)) : CvD P s d .bytes
  | mark (e : TypeId) (hs : P.underlying s = some (.slice e)) (he : P.underlying e = some (.int .u8)) (hd : s = d) : CvD P s d .mark
  | no : CvD P s d .no
theorem cvT_spec (s d : TypeId) : CvD P s d (cvT P s d) := by
  unfold cvT
  split
  · exact .no
  · rename_i S hs
    split
    · rename_i k hd; exact .int k S hs hd
    · rename_i hd
      split
      · rename_i e
        split
        · rename_i he; exact .text e hs (isU8_some he) hd
        · exact .no
      · exact .str hs hd
      · exact .no
    · rename_i e hd
      split
      · split
        · rename_i he; exact .bytes e hs hd (isU8_some he)
        · exact .no
      · split
        · rename_i he
          simp only [Bool.and_eq_true] at he
          have hsd := Nat.eq_of_beq_eq_true he.2
          have hsd' : s = d := hsd
          subst hsd'
          rw [hs] at hd
          cases hd
          exact .mark e hs (isU8_some he.1) rfl
        · exact .no
      · exact .no
    · exact .no
theorem bk_freeze {w : World} {r k b : Nat} : bk (w.freeze ⟨r, k, none⟩ 1) b = if b = r then (bk w b).map (fun o => match o with | .cells c elem (lo, hi) => .cells c elem (if lo == hi then (k, k + 1) else (min lo k, max hi (k + 1))) | o => o) else bk w b := by
  unfold World.freeze bk
  rw [if_neg (by decide)]
  simp only [Array.getElem?_modify]
  by_cases hb : r = b
  · subst hb; rw [if_pos rfl, if_pos rfl]; rfl
  · rw [if_neg hb, if_neg (Ne.symm hb)]
theorem sz_freeze {w : World} {r k : Nat} : sz (w.freeze ⟨r, k, none⟩ 1) = sz w := by
  unfold World.freeze sz; rw [if_neg (by decide)]; simp
theorem run_mark {w : World} {r q : Nat} {c : List Value} {E : TypeId} {fr : Nat × Nat} (hb : bk w r = some (clf c E fr)) : (markStringish ⟨r, q, none⟩).run P w = .ok () (w.freeze ⟨r, c.length, none⟩ 1) := by
  have hs : w.shape? r = some (E, c.length) := by
    unfold World.shape?; unfold bk at hb; rw [hb]; simp [clf]
  unfold markStringish
  simp only [shape, Sem.run_bind, Sem.run, hs, Result.andThen_ok, freeze]
theorem freeze_frOk {lo hi k : Nat} (h : frOk (lo, hi) k) : frOk (if lo == hi then (k, k + 1) else (min lo k, max hi (k + 1))) k := by
  rcases h with ⟨h1, h2⟩ | h
  · simp only at h1 h2; subst h1 h2; right; simp
  · by_cases e : lo = hi
    · subst e; right; simp
    · right; simp only [beq_iff_eq, e, if_false]; simp only at h; show k ≤ min lo k; omega
theorem RH.frozen (H : RH B w0 ρ h w) {b : Bp} {r g : Nat} {k : Bk} {c : List Value} {E : TypeId} {fr : Nat × Nat} (hb : h.blk b = some k) (hl : k ≠ .dead) (hρ : ρ b = some (r, g)) (hw : bk w r = some (clf c E fr)) : RH B w0 ρ h (w.freeze ⟨r, c.length, none⟩ 1) := by
  obtain ⟨r', g', e, hk⟩ := H.blk _ _ hb
  rw [hρ] at e; cases e
  have hput : (setB h b k).blk = h.blk := by
    funext q
    rw [blk_put]
    split
    · rename_i hq; subst hq; exact hb.symm
    · rfl
  have hbk : bk (w.freeze ⟨r, c.length, none⟩ 1) r = some (clf c E (if fr.1 == fr.2 then (c.length, c.length + 1) else (min fr.1 c.length, max fr.2 (c.length + 1)))) := by
    rw [bk_freeze, if_pos rfl, hw]; rfl
  have key : RB ρ g k (bk (w.freeze ⟨r, c.length, none⟩ 1) r) := by
    rw [hbk]
    rw [hw] at hk
    generalize hob : some (clf c E fr) = ob at hk
    cases hk with
    | cells es z c' E' hc hz hs fr' hf =>
      simp only [clf, Option.some.injEq, Obj.cells.injEq] at hob
      obtain ⟨hcc, rfl, rfl⟩ := hob
      have : c' = c := by simpa using hcc.symm
      subst this
      exact .cells es z _ _ hc hz hs _ (freeze_frOk hf)
    | grow es z c' post E' hc hz hs hl2 hg fr' hf =>
      simp only [clf, Option.some.injEq, Obj.cells.injEq] at hob
      obtain ⟨hcc, rfl, rfl⟩ := hob
      have : c' ++ post = c := by simpa using hcc.symm
      subst this
      exact .grow es z _ _ _ hc hz hs hl2 hg _ (freeze_frOk hf)
    | map kk l es' clk clk' hm hk' => cases hob
    | dead => exact absurd rfl hl
  have HT := H.turn (k' := k) hb hl hρ (w' := w.freeze ⟨r, c.length, none⟩ 1) (fun r' hr' => by rw [bk_freeze, if_neg hr']) sz_freeze (by unfold World.freeze outs; rw [if_neg (by decide)]) key
  refine ⟨fun q k2 hq => HT.blk q k2 (by rw [hput]; exact hq), fun p q r1 g1 g2 hp hq lp lq => HT.inj p q r1 g1 g2 hp hq ?_ ?_, HT.fresh, HT.low, HT.old, HT.size, HT.ro, HT.io, HT.kp⟩
  · obtain ⟨k2, h1, h2⟩ := lp; exact ⟨k2, by rw [hput]; exact h1, h2⟩
  · obtain ⟨k2, h1, h2⟩ := lq; exact ⟨k2, by rw [hput]; exact h1, h2⟩
theorem bytesV_some : ∀ {l : List V} {b : List Nat} {xs : List Value}, bytesV l = some b → RVs ρ l xs → ∃ ns : List Int, xs = ns.map (Value.int .u8) ∧ b = ns.map (fun n => n.toNat % 256)
  | [], b, xs, e, h => by cases e; cases h; exact ⟨[], rfl, rfl⟩
  | u :: l, b, xs, e, h => by
    have e : (match byteV u with | some c => (match bytesV l with | some r => some (c :: r) | none => none) | none => none) = some b := e
    cases h with
    | cons _ x _ xs hx hs =>
      split at e
      · rename_i c hc
        split at e
        · rename_i r hr
          cases e
          obtain ⟨ns, rfl, rfl⟩ := bytesV_some hr hs
          unfold byteV at hc
          split at hc
          · rename_i k
            cases hc
            cases hx
            exact ⟨Int.ofNat k :: ns, rfl, rfl⟩
          · cases hc
        · cases e
      · cases e
theorem push_bytes (ns : List Int) : ∀ s : List Nat, ns.foldl (fun r n => r.push (UInt8.ofNat n.toNat)) (bytesOf s) = bytesOf (s ++ ns.map (fun n => n.toNat % 256)) := by
  induction ns with
  | nil => intro s; simp
  | cons n ns ih =>
    intro s
    rw [List.foldl_cons]
    have : (bytesOf s).push (UInt8.ofNat n.toNat) = bytesOf (s ++ [n.toNat % 256]) := by
      unfold bytesOf
      simp only [ByteArray.push, List.map_append, List.map_cons, List.map_nil, List.push_toArray]
      congr 4
      apply UInt8.toNat_inj.1
      simp
    rw [this, ih]
    simp
theorem cv_run_bytes {s d e : TypeId} (hs : P.underlying s = some .string) (hd : P.underlying d = some (.slice e)) (he : P.underlying e = some (.int .u8)) (b : ByteArray) (w : World) :
    (convert s d (.string b)).run P w = (Conv.stringToBytes e b).run P w := by
  simp [convert, run_underlying hs, run_underlying hd, run_underlying he]
theorem conv_sound (H : RH B w0 ρ h w) {s d : TypeId} {x : V} {X : Value} (hx : RV ρ x X) (e : convV (cvT P s d) x h = some (v, h')) : Nx P (cvt s d X) w (PV B w0 ρ v h') := by
  have hD := cvT_spec (P := P) s d
  generalize cvT P s d = c at *
  unfold convV at e
  cases hD with
  | int k S hs hd =>
    simp only at e
    split at e
    · obtain ⟨rfl, rfl⟩ := some_pair e
      rename_i k0 i0
      rw [rv_int hx, cvtI_eq]
      refine Nx_val (x := .int k (k.wrap i0)) (w' := w) ?_ (.same H (.int _ _))
      simp [convert, run_underlying hs, run_underlying hd, Conv.intToInt]
    · cases e
  | str hs hd =>
    simp only at e
    split at e
    · obtain ⟨rfl, rfl⟩ := some_pair e
      have hx0 := hx
      cases hx
      exact Nx_val (w' := w) (by simp [convert, run_underlying hs, run_underlying hd]) (.same H hx0)
    · cases e
  | text el hs he hd =>
    simp only at e
    split at e
    rotate_left
    · cases e
    rename_i k0 hk0
    split at e
    · rename_i es hes
      split at e
      · rename_i b hb
        obtain ⟨rfl, rfl⟩ := some_pair e
        obtain ⟨ys, hy, hyz, hys, hlen, hfirst⟩ := elems_sound (P := P) H hx hes
        obtain ⟨f1, _⟩ : cats es = es ∧ True := by
          refine ⟨?_, trivial⟩
          have : ∀ l : List V, (∃ b, bytesV l = some b) → cats l = l := by
            intro l
            induction l with
            | nil => intro _; rfl
            | cons u l ih =>
              rintro ⟨b, e⟩
              have e : (match byteV u with | some c => (match bytesV l with | some r => some (c :: r) | none => none) | none => none) = some b := e
              split at e
              · rename_i c hc
                split at e
                · rename_i r hr
                  rw [cats_cons, ih ⟨r, hr⟩]
                  unfold byteV at hc
                  split at hc
                  · rfl
                  · cases hc
                · cases e
              · cases e
          exact this es ⟨b, hb⟩
        rw [f1] at hy
        obtain ⟨ns, rfl, rfl⟩ := bytesV_some hb hy
        have hyl := hy.len
        rw [List.length_map] at hyl
        have hrv : RV ρ (.str (ns.map fun n => n.toNat % 256)) (.string (bytesOf (ns.map fun n => n.toNat % 256))) := .str _ (fun y hy => by obtain ⟨m, _, rfl⟩ := List.mem_map.1 hy; omega)
        have hall := hfirst es.length (Nat.le_refl _)
        rw [Nat.mul_one, List.take_of_length_le (by simp; omega)] at hall
        have goal : (convert s d X).run P w = .ok (.string (bytesOf (ns.map fun n => n.toNat % 256))) w := by
          have hpush := push_bytes ns []
          rw [List.nil_append] at hpush
          have hemp : bytesOf [] = ByteArray.empty := rfl
          rw [hemp] at hpush
          rw [← hpush]
          have hsl : ∃ ad c, X = .slice ad es.length c := by
            cases hx <;> simp only [lenD, reduceCtorEq] at hk0 <;> simp only [Builtin.lenOf, pev_pure, Option.some.injEq] at hlen <;> (rw [← hlen]; exact ⟨_, _, rfl⟩)
          obtain ⟨ad, c, rfl⟩ := hsl
          rw [run_convert_bytes_string w s d el ad _ c hs he hd]
          cases ad with
          | none =>
            have h0 : es.length = 0 := by
              generalize hX : Value.slice none es.length c = X' at hx
              cases hx <;> simp [ptr] at hX
              rw [hX.1]; rfl
            have hns : ns = [] := List.eq_nil_of_length_eq_zero (by omega)
            subst hns
            simp [Conv.bytesToString]
          | some ad =>
            refine run_bytesToString w ad _ c ns (rdev_run ?_)
            have : Builtin.firstCells 1 es.length (.slice (some ad) es.length c) = loadCells ad es.length := by simp [Builtin.firstCells]
            rw [← this]; exact hall
        exact Nx_val goal (.same H hrv)
      · cases e
    · cases e
  | bytes el hs hd he =>
    simp only at e
    split at e
    · rename_i b
      obtain ⟨rfl, rfl⟩ := some_pair e
      cases hx with
      | str _ hb =>
        rw [lenL_eq, mapL_eq]
        have hge := Nat.le_trans (Nat.le_refl b.length) (by have := grownCap_ge w b.length 0 el; exact this)
        have hrun : (convert s d (.string (bytesOf b))).run P w = .ok (.slice (some ⟨sz w, 0, none⟩) b.length (grownCap w b.length 0 el)) ((w.drew.alloc (cl ((b.map fun x => Value.int .u8 (.ofNat x)) ++ List.replicate (grownCap w b.length 0 el - b.length) (Value.int .u8 0)) el)).freeze ⟨sz w, ((b.map fun x => Value.int .u8 (.ofNat x)) ++ List.replicate (grownCap w b.length 0 el - b.length) (Value.int .u8 0)).length, none⟩ 1) := by
          rw [cv_run_bytes hs hd he]
          unfold Conv.stringToBytes
          have hch : (choose (.appendCap (bytesOf b).size 0 el)).run P w = .ok (grownCap w b.length 0 el) w.drew := by
            rw [bytesOf_size]; simp [choose, Sem.run, Question.forced, grownCap]
          simp only [Sem.run_bind, hch, Result.andThen_ok, u8_bytes hb]
          rw [run_newRow]
          simp only [Result.andThen_ok, Sem.run_bind, Sem.run_pure]
          have hl : ((b.map fun x => Value.int .u8 (.ofNat x)).toArray ++ Array.replicate (grownCap w b.length 0 el - (bytesOf b).size) (Value.int .u8 0)).toList = (b.map fun x => Value.int .u8 (.ofNat x)) ++ List.replicate (grownCap w b.length 0 el - b.length) (Value.int .u8 0) := by
            rw [bytesOf_size]; simp
          rw [hl]
          have hbk := bk_alloc w.drew (cl ((b.map fun x => Value.int .u8 (.ofNat x)) ++ List.replicate (grownCap w b.length 0 el - b.length) (Value.int .u8 0)) el) (sz w.drew)
          rw [if_pos rfl] at hbk
          have := run_mark (P := P) (q := 0) (fr := (0, 0)) hbk
          rw [show sz w = sz w.drew from rfl, this]
          simp only [Result.andThen_ok, bytesOf_size]
        generalize grownCap w b.length 0 el = g at *
        refine Nx_val hrun ?_
        have hrb : RB ρ g (.grow (b.map u8V) 1) (some (cl ((b.map fun x => Value.int .u8 (.ofNat x)) ++ List.replicate (g - b.length) (Value.int .u8 0)) el)) := by
          refine .grow _ _ _ _ _ (by rw [u8_flat]; exact u8_rvs b) ?_ ?_ ?_ (by simpa using hge) (0, 0) (.inl ⟨rfl, rfl⟩)
          · intro e he; obtain ⟨c, _, rfl⟩ := List.mem_map.1 he; rfl
          · rw [List.all_append, u8_all]; simp [scalarV]
          · simp; omega
        have hA := H.drew.alloc (.grow (b.map u8V) 1) _ g hrb
        have hbk := bk_alloc w.drew (cl ((b.map fun x => Value.int .u8 (.ofNat x)) ++ List.replicate (g - b.length) (Value.int .u8 0)) el) (sz w.drew)
        rw [if_pos rfl] at hbk
        refine ⟨_, H.drew.new_ext (sz w.drew, g), hA.frozen (fr := (0, 0)) (E := el) (b := h.nx) (k := .grow (b.map u8V) 1) ?_ (by simp) (ρput_eq _ _ _) hbk, .sg _ _ _ _ _ g 0 (ρput_eq _ _ _) (.inl rfl) (by show 0 + b.length ≤ g; omega)⟩
        rw [blk_new, if_pos rfl]
    · cases e
  | mark el hs he hd =>
    subst hd
    simp only at e
    have go : ∀ (r q k c g : Nat) (b : Bp), RV ρ x X → X = .slice (some ⟨r, q, none⟩) k c → ρ b = some (r, g) → rowB h b = true → Nx P (cvt s s X) w (PV B w0 ρ x h) := fun r q k c g b hx hX hρ hr => by
      have hb : ∃ es z, h.blk b = some (.cells es z) ∨ h.blk b = some (.grow es z) := by
        unfold rowB at hr
        split at hr
        · rename_i es z hb; exact ⟨es, z, .inl hb⟩
        · rename_i es z hb; exact ⟨es, z, .inr hb⟩
        · cases hr
      obtain ⟨es, z, hb⟩ := hb
      obtain ⟨cs, post, E, fr, h1, _⟩ := blk_row H hρ hb
      have hrun : (convert s s X).run P w = .ok X (w.freeze ⟨r, (cs ++ post).length, none⟩ 1) := by
        subst hX
        have hm := run_mark (P := P) (q := q) h1
        simp [convert, run_underlying hs, run_underlying he, hm]
      refine Nx_val hrun ⟨ρ, .refl _, ?_, hx⟩
      rcases hb with hb | hb
      · exact H.frozen hb (by simp) hρ h1
      · exact H.frozen hb (by simp) hρ h1
    split at e
    · split at e
      · rename_i hr
        obtain ⟨rfl, rfl⟩ := some_pair e
        have hx0 := hx
        cases hx with
        | sl _ _ _ _ r g hρ => exact go r _ _ _ g _ hx0 rfl hρ hr
      · cases e
    · split at e
      · rename_i hr
        obtain ⟨rfl, rfl⟩ := some_pair e
        have hx0 := hx
        cases hx with
        | sg _ _ _ _ r g o' hρ ho hk => exact go r _ _ _ g _ hx0 rfl hρ hr
      · cases e
    · cases e
  | no => cases e
end
end Go.Proofs.YthdaccndnfgeeaaGreatDoor.CM
