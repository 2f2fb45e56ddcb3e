/- What the program's one table of its own holds, read off a row's list. -/
import Derived.Test.YthdaccndnfgeeaaGreatDoorRowS
import Derived.Test.YthdaccndnfgeeaaGreatDoorNames
import Derived.Test.YthdaccndnfgeeaaGreatDoorRows
import Derived.Lib.LaidTab
import Derived.LaidSub
namespace Go.Proofs.YthdaccndnfgeeaaGreatDoor.CM
open Go
def saltZ : List Int := [1116352408, 1899447441, 3049323471, 3921009573, 961987163, 1508970993, 2453635748, 2870763221, 3624381080, 310598401, 607225278, 1426881987, 1925078388, 2162078206, 2614888103, 3248222580, 3835390401, 4022224774, 264347078, 604807628, 770255983, 1249150122, 1555081692, 1996064986, 2554220882, 2821834349, 2952996808, 3210313671, 3336571891, 3584528711, 113926993, 338241895, 666307205, 773529912, 1294757372, 1396182291, 1695183700, 1986661051, 2177026350, 2456956037, 2730485921, 2820302411, 3259730800, 3345764771, 3516065817, 3600352804, 4094571909, 275423344, 430227734, 506948616, 659060556, 883997877, 958139571, 1322822218, 1537002063, 1747873779, 1955562222, 2024104815, 2227730452, 2361852424, 2428436474, 2756734187, 3204031479, 3329325298]
/-- The package's variables: block 1 holds the salts. -/
noncomputable def GL (n : Nat) : Option (List V) := match Nat.beq n 1 with
  | true => some (saltZ.map fun z => V.int .u32 z)
  | false => none
theorem gSalt : Tryz.prog.globalNamed "casemate/sha.salts" = some 1 := by kernel_rfl
theorem gSaltType : (Tryz.prog.globals[1]?).map (·.type) = some 518 := by kernel_rfl
theorem uArr : Tryz.prog.underlying 518 = some (.array 64 442) := by kernel_rfl
theorem uElem : Tryz.prog.underlying 442 = some (.int .u32) := by kernel_rfl
theorem cells518 : Tryz.prog.cellsOf 518 = 64 := by kernel_rfl
theorem cells442 : Tryz.prog.cellsOf 442 = 1 := by kernel_rfl
theorem laid_eq : (Rows.laid_casemate_sha_salts : DataW Unit) = Lib.tabData .u32 saltZ := by kernel_rfl
theorem salt_tab {W : World} {rest : List (String × DataW Unit)} (h : laidMet Tryz.prog (("casemate/sha.salts", Rows.laid_casemate_sha_salts) :: rest) W) : Lib.TabIs Tryz.prog W "casemate/sha.salts" .u32 saltZ := by
  rw [laid_eq] at h
  exact Lib.tabIs_of_head gSalt gSaltType uArr uElem cells442 cells518 h
theorem int_rvs (ρ : Vl) (k : IntKind) : ∀ zs : List Int, RVs ρ (zs.map fun z => V.int k z) (zs.map fun z => Value.int k z)
  | [] => .nil
  | z :: zs => .cons _ _ _ _ (.int _ _) (int_rvs ρ k zs)
theorem salt_ok {W : World} (h : Lib.TabIs Tryz.prog W "casemate/sha.salts" .u32 saltZ) : GOk GL (worldN W) := by
  intro n l hn
  unfold GL at hn
  split at hn
  · rename_i h1
    have := eqN h1
    subst this
    cases hn
    have hb : ∃ T fr, bk W 1 = some (.cells (saltZ.map fun z => Value.int .u32 z).toArray T fr) := by
      unfold Lib.TabIs World.var? at h
      rw [gSalt] at h
      simp only [Option.bind_some] at h
      unfold bk
      cases hh : W.heap[1]? with
      | none => rw [hh] at h; cases h
      | some o =>
        rw [hh] at h
        cases o <;> first
          | (simp only [Option.some.injEq] at h; exact ⟨_, _, by rw [h]⟩)
          | cases h
    obtain ⟨T, fr, hb⟩ := hb
    exact global_rv hb (fun ρ => int_rvs ρ .u32 saltZ) (by simp [scalarV])
  · cases hn
end Go.Proofs.YthdaccndnfgeeaaGreatDoor.CM
