/- store.fine. -/
import Derived.Test.YtfnahihdkbgleaaDoorFile
import Derived.Test.YtfnahihdkbgleaaDoorNamed
namespace Go.Proofs.YtfnahihdkbgleaaDoor.Z
open Go.RowKit Go.Proofs.YtfnahihdkbgleaaDoorW.PrintWords
set_option linter.unusedVariables false
/-- May an item be? -/
def fineB (x : It) : Bool := decide (1 ≤ x.f0) && decide (x.f0 ≤ 4) && namedB x.f1 && decide (x.f2.length ≤ 1048576)
set_option maxHeartbeats 1600000 in
theorem fine_calls (x : It) (A2 : Option Addr) (c2 : Nat) (w : World) :
    Calls Tryd.prog 13 #[.agg #[.int .u8 x.f0, .string x.f1, .slice A2 x.f2.length c2]] w fun e w' => e = .returned (.bool (fineB x)) ∧ Below w.heap.size w w' := by
  have hu := Tryd.underlying29
  have hba : Below w.heap.size w (w.alloc (.cells #[.int .u8 x.f0, .string x.f1, .slice A2 x.f2.length c2] 29)) := (Below.refl _ _).alloc (Nat.le_refl _) _
  by_cases h1 : 1 ≤ x.f0
  · have h1b : decide (1 ≤ x.f0) = true := decide_eq_true h1
    by_cases h4 : x.f0 ≤ 4
    · have h4b : decide (x.f0 ≤ 4) = true := decide_eq_true h4
      have HF : Hid (fineB x = (namedB x.f1 && decide (x.f2.length ≤ 1048576))) := Lib.hid (by unfold fineB; rw [h1b, h4b]; rfl)
      have HN := Lib.hid (fun W => named_calls x.f1 W)
      have HB := Lib.hid hba
      clear hba
      cases hn : namedB x.f1
      · rw [hn] at HF HN
        have HF' : Hid (fineB x = false) := Lib.hid HF.out
        clear HF hn
        go_enter Tryd.func13, Tryd.ntmps13
        go_wp2_with (go_at_call 20; refine (HN.out _).mono ?_; rintro e w' ⟨rfl, hb⟩)
        go_ret
        exact ⟨by rw [HF'.out]; rfl, below_step HB.out hb⟩
      · rw [hn] at HF HN
        have HF' : Hid (fineB x = decide (x.f2.length ≤ 1048576)) := Lib.hid HF.out
        clear HF hn
        go_enter Tryd.func13, Tryd.ntmps13
        go_wp2_with fail
        refine (HN.out _).mono ?_
        rintro e w' ⟨rfl, hb⟩
        have hc2 : w'.cell? ⟨w.heap.size, 2, none⟩ = some (.slice A2 x.f2.length c2) := (blk_cell (blk_below (blk_new w _) hb) 2).trans rfl
        have HB2 := Lib.hid (below_step HB.out hb)
        clear hb
        go_wp2
        go_ret
        refine ⟨?_, HB2.out⟩
        rw [HF'.out]
        simp
        omega
    · have HF : Hid (fineB x = false) := Lib.hid (by unfold fineB; rw [decide_eq_false h4]; simp)
      have h4b : decide (x.f0 ≤ 4) = false := decide_eq_false h4
      have HB := Lib.hid hba
      clear hba
      go_enter Tryd.func13, Tryd.ntmps13
      go_wp2
      go_ret
      exact ⟨by rw [HF.out]; rfl, HB.out⟩
  · have HF : Hid (fineB x = false) := Lib.hid (by unfold fineB; rw [decide_eq_false h1]; simp)
    have h1b : decide (1 ≤ x.f0) = false := decide_eq_false h1
    have HB := Lib.hid hba
    clear hba
    go_enter Tryd.func13, Tryd.ntmps13
    go_wp2
    go_ret
    exact ⟨by rw [HF.out]; rfl, HB.out⟩
end Go.Proofs.YtfnahihdkbgleaaDoor.Z
