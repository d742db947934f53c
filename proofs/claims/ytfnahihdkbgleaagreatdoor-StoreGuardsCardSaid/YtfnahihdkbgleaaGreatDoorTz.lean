/- math/bits.TrailingZeros at the bases 2 and 16. -/
import Derived.Test.YtfnahihdkbgleaaGreatDoorGl
namespace Go.Proofs.YtfnahihdkbgleaaGreatDoor
open Go.RowKit
theorem tz64_at (b c i : Nat) (w : World) (hG : Gl w) (h : (b = 2 ∧ c = 1 ∧ i = 1) ∨ (b = 16 ∧ c = 4 ∧ i = 15)) :
    Calls Tryz.prog 113 #[.int .u64 b] w fun e w' => e = .returned (.int .i64 c) ∧ w = w' := by
  have hc := hG.db64.cell gl_db64 i (by rcases h with ⟨_, _, rfl⟩ | ⟨_, _, rfl⟩ <;> decide)
  rcases h with ⟨rfl, rfl, rfl⟩ | ⟨rfl, rfl, rfl⟩
  · have hc' : w.cell? ⟨8, 1, none⟩ = some (.int .u8 1) := hc
    clear hc
    have ha : IntKind.u64.wrap (bits .and .u64 2 (IntKind.u64.wrap (-2)) * 285870213051353865) / 288230376151711744 = 1 := by kernel_rfl
    go_enter Tryz.func113, Tryz.ntmps113
    go_wp2
    go_ret
    exact ⟨rfl, rfl⟩
  · have hc' : w.cell? ⟨8, 15, none⟩ = some (.int .u8 4) := hc
    clear hc
    have ha : IntKind.u64.wrap (bits .and .u64 16 (IntKind.u64.wrap (-16)) * 285870213051353865) / 288230376151711744 = 15 := by kernel_rfl
    go_enter Tryz.func113, Tryz.ntmps113
    go_wp2
    go_ret
    exact ⟨rfl, rfl⟩
end Go.Proofs.YtfnahihdkbgleaaGreatDoor
