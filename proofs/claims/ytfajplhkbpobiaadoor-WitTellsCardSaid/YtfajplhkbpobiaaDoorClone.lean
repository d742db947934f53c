/- bytes.Clone in the printed form. -/
import Derived.Test.YtfajplhkbpobiaaDoorZ0
import Derived.Test.YtfajplhkbpobiaaDoorShelf
namespace Go.Proofs.YtfajplhkbpobiaaDoor.Z
set_option linter.unusedVariables false
open Go.RowKit Go.Proofs.YtfajplhkbpobiaaDoorW.PrintWords
def bytes_Clone.f (l0 : List Int) : Option (List Int) := if l0.length ≤ 140737488355328 then some l0 else none
theorem bytes_Clone.calls (A0 : Option Addr) (c0 : Nat) (l0 : List Int) (r : List Int) (w : World) (hr0 : Kd.C (Kd.int .u8) w A0 l0.length l0) (hc0 : l0.length ≤ c0) (h : bytes_Clone.f l0 = some r) :
    Calls Tryd.prog 31 #[.slice A0 l0.length c0] w fun e w' => ∃ v0_ : Value, e = .returned (v0_) ∧ Kd.R (Kd.int .u8) 5 w' w.heap.size (fun _ => True) v0_ r ∧ Below w.heap.size w w' := by
  unfold bytes_Clone.f at h
  split at h
  · rename_i hle
    obtain rfl := Option.some.inj h
    obtain ⟨h1, h2, h3⟩ := Kd.reads_of_C (d := (0 : Int)) hr0
    cases A0 with
    | none =>
      have h0 : l0 = [] := by
        rcases Nat.eq_zero_or_pos l0.length with e | e
        · exact List.length_eq_zero_iff.1 e
        · obtain ⟨ad, hq, _⟩ := h3 e
          cases hq
      subst h0
      refine (Tryd.bytes_Clone_nil 0 c0 w).mono ?_
      rintro e w' ⟨rfl, rfl⟩
      exact ⟨_, rfl, Kd.R_nil _ _ _ _ _, Below.refl _ _⟩
    | some a =>
      have hcell : ∀ i, i < l0.length → w.cell? (a.add i) = some (.int .u8 (l0.getD i 0)) := by
        intro i hi
        obtain ⟨ad, hq, hc⟩ := h3 (by omega)
        obtain rfl := Option.some.inj hq
        exact hc i hi
      refine (Tryd.bytes_Clone_at a l0.length c0 l0 w rfl hle hcell).mono ?_
      rintro e w' ⟨v', rfl, ho, _, hb⟩
      exact ⟨v', rfl, Kd.R_of_own ho (fun _ _ => trivial), hb⟩
  · cases h
end Go.Proofs.YtfajplhkbpobiaaDoor.Z
