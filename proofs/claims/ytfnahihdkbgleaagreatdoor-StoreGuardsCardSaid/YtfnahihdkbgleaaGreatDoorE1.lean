/- store.file, store.May in the printed form. -/
import Derived.Test.YtfnahihdkbgleaaGreatDoorMay
namespace Go.Proofs.YtfnahihdkbgleaaGreatDoor.Z
open Go.RowKit Go.Proofs.YtfnahihdkbgleaaGreatDoorW.PrintWords
/-- What is asked of items. -/
def ItAll (l : List It) : Prop := (∀ x ∈ l, ((0 ≤ x.f0 ∧ x.f0 < 256) ∧ ∀ b ∈ x.f2, 0 ≤ b ∧ b < 256) ∧ x.f1.size ≤ 9223372036854775807) ∧ l.length ≤ 1000000000000
instance (l : List It) : Decidable (ItAll l) := by unfold ItAll; infer_instance
def store_file.f (l0 : List S37) : Option (List Int) := if ItAll l0 ∧ (fileL l0).length ≤ 140737488355328 then some (fileL l0) else none
theorem store_file.calls (A0 : Option Addr) (c0 : Nat) (l0 : List S37) (r : List Int) (w : World) (hgl : Gl w) (hr0 : Kd.C k37 w A0 l0.length l0) (hc0 : l0.length ≤ c0) (h : store_file.f l0 = some r) :
    Calls Tryz.prog 13 #[.slice A0 l0.length c0] w fun e w' => ∃ v0_ : Value, e = .returned (v0_) ∧ Kd.R (Kd.int .u8) 5 w' w.heap.size (fun _ => True) v0_ r ∧ Below w.heap.size w w' := by
  unfold store_file.f at h
  split at h
  · rename_i hc
    obtain rfl := Option.some.inj h
    exact file_calls l0 (fun x hx => (hc.1.1 x hx).1) hc.2 A0 c0 w hgl hr0 hc0
  · cases h
def store_May.f (l0 : List S37) : Option Bool := if ItAll l0 then some (mayB l0) else none
theorem store_May.calls (A0 : Option Addr) (c0 : Nat) (l0 : List S37) (r : Bool) (w : World) (hgl : Gl w) (hr0 : Kd.C k37 w A0 l0.length l0) (hc0 : l0.length ≤ c0) (h : store_May.f l0 = some r) :
    Calls Tryz.prog 8 #[.slice A0 l0.length c0] w fun e w' => e = .returned (.bool r) ∧ Below w.heap.size w w' := by
  unfold store_May.f at h
  split at h
  · rename_i hc
    obtain rfl := Option.some.inj h
    exact may_calls l0 (fun x hx => (hc.1 x hx).1) (fun x hx => (hc.1 x hx).2) hc.2 A0 c0 w hgl hr0 hc0
  · cases h
end Go.Proofs.YtfnahihdkbgleaaGreatDoor.Z
