/- Numerals in a base: plain Lean. -/
import Derived.KernelRfl
namespace Go.Proofs.YtfnahihdkbgleaaGreatDoor
/-- A digit's letter. -/
def digC (d : Nat) : UInt8 := if d < 10 then UInt8.ofNat (48 + d) else UInt8.ofNat (87 + d)
/-- The k low digits of u. -/
def lowDigs (b : Nat) : Nat → Nat → List UInt8
  | 0, _ => []
  | k + 1, u => digC (u / b ^ k % b) :: lowDigs b k u
/-- How many digits lie behind the first one. -/
def hiDigs (b : Nat) : Nat → Nat → Nat
  | 0, _ => 0
  | f + 1, u => if u < b then 0 else hiDigs b f (u / b) + 1
/-- The numeral of u in the base b (u below 2 ^ 64). -/
def numeral (b u : Nat) : List UInt8 := lowDigs b (hiDigs b 64 u + 1) u
theorem lowDigs_length (b k u : Nat) : (lowDigs b k u).length = k := by
  induction k with
  | zero => rfl
  | succ k ih => simp [lowDigs, ih]
theorem hiDigs_le (b f u : Nat) (hb : 2 ≤ b) (hu : u < 2 ^ f) : hiDigs b f u < max f 1 := by
  induction f generalizing u with
  | zero => simp [hiDigs]
  | succ f ih =>
    unfold hiDigs
    by_cases h : u < b
    · simp [h]
    · rw [if_neg h]
      have h2 : u / b < 2 ^ f := by
        have : u / b ≤ u / 2 := Nat.div_le_div_left hb (by omega)
        have : u / 2 < 2 ^ f := by rw [Nat.pow_succ] at hu; omega
        omega
      have := ih (u / b) h2
      rcases f with _ | f
      · exfalso
        have : u = 0 ∨ u = 1 := by rw [Nat.pow_succ] at hu; omega
        omega
      · omega
/-- Behind k rounds: the number of digits is k and those of what is left. -/
theorem hiDigs_step (b f u : Nat) (h : ¬ u < b) : hiDigs b (f + 1) u = hiDigs b f (u / b) + 1 := by
  rw [hiDigs, if_neg h]
theorem hiDigs_stop (b f u : Nat) (h : u < b) : hiDigs b (f + 1) u = 0 := by rw [hiDigs, if_pos h]
end Go.Proofs.YtfnahihdkbgleaaGreatDoor
