/- What the package-level variables that the walks read hold; it lasts while the blocks that lay there are as they were. -/
import Derived.Test.YtfajplhkbpobiaaDoorProg
import Derived.Lib.SmallJoins
import Derived.Lib.ItoaMem
import Derived.Lib.Tables
import Derived.Lib.TrailingZeros
import Derived.WalkKit
import Derived.KernelRfl
namespace Go.Proofs.YtfajplhkbpobiaaDoor
open Go.RowKit
/-- The library's table, as its initialiser lays it. -/
def db64Tab : List Int := [0, 1, 56, 2, 57, 49, 28, 3, 61, 58, 42, 50, 38, 29, 17, 4, 62, 47, 59, 36, 45, 43, 51, 22, 53, 39, 33, 30, 24, 18, 12, 5, 63, 55, 48, 27, 60, 41, 37, 16, 46, 35, 44, 21, 52, 32, 23, 11, 54, 26, 40, 15, 34, 20, 31, 10, 25, 14, 19, 9, 13, 8, 7, 6]
/-- What the walks ask of the world's package-level variables. -/
structure Gl (W : World) : Prop where
  pow : Lib.TabIs Tryd.prog W "internal/strconv.uint64pow10" .u64 Lib.pow10Tab
  db64 : Lib.TabIs Tryd.prog W "math/bits.deBruijn64tab" .u8 db64Tab
  rng : ∃ te pe, W.cell? ⟨2, 0, none⟩ = some (.iface te pe)
theorem gl_pow : Tryd.prog.globalNamed "internal/strconv.uint64pow10" = some 0 := by kernel_rfl
theorem gl_db64 : Tryd.prog.globalNamed "math/bits.deBruijn64tab" = some 4 := by kernel_rfl
theorem tab_stays' {P : Program} {w w' : World} {g : Nat} {n : String} {k : IntKind} {zs : List Int} (hg : P.globalNamed n = some g) (h : Lib.TabIs P w n k zs) (hb : Below w.heap.size w w') : Lib.TabIs P w' n k zs :=
  Joins.tab_stays hg h hb (Nat.le_refl _)
theorem Gl.below {W W1 : World} (hb : Below W.heap.size W W1) (h : Gl W) : Gl W1 where
  pow := tab_stays' gl_pow h.pow hb
  db64 := tab_stays' gl_db64 h.db64 hb
  rng := let ⟨te, pe, h0⟩ := h.rng; ⟨te, pe, (hb.cell (World.block_lt_of_cell? W _ h0)).trans h0⟩
theorem Gl.alloc {W : World} (h : Gl W) (o : Obj) : Gl (W.alloc o) := Gl.below ((Below.refl _ _).alloc (Nat.le_refl _) o) h
theorem Gl.drewN {W : World} (h : Gl W) (n : Nat) : Gl (W.drewN n) := Gl.below (W := W) (W1 := W.drewN n) ⟨rfl, rfl, rfl, Nat.le_refl _, fun _ _ => rfl⟩ h
theorem Gl.drew {W : World} (h : Gl W) : Gl W.drew := Gl.below (W := W) (W1 := W.drew) ⟨rfl, rfl, rfl, Nat.le_refl _, fun _ _ => rfl⟩ h
end Go.Proofs.YtfajplhkbpobiaaDoor
