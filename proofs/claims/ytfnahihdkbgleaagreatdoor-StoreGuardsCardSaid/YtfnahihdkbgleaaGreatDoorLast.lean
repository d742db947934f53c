/- store.last: the line sum. -/
import Derived.Test.YtfnahihdkbgleaaGreatDoorSum
import Derived.Test.YtfnahihdkbgleaaGreatDoorShelf
import Derived.Test.YtfnahihdkbgleaaGreatDoorFmt16
namespace Go.Proofs.YtfnahihdkbgleaaGreatDoor.Z
open Go.RowKit Go.Proofs.YtfnahihdkbgleaaGreatDoorW.PrintWords
/-- The line sum of bytes. -/
def lastL (b : List Int) : List UInt8 := [115, 117, 109, 32] ++ List.replicate (8 - (numeral 16 (crcSum b).toNat).length) 48 ++ numeral 16 (crcSum b).toNat ++ [10]
theorem numeral_length (u : Nat) (hu : u < 2 ^ 32) : 1 ≤ (numeral 16 u).length ∧ (numeral 16 u).length ≤ 8 := by
  unfold numeral
  rw [lowDigs_length]
  have h8 : ∀ f u, u < 16 ^ (f + 1) → ∀ g, f < g → hiDigs 16 g u ≤ f := by
    intro f
    induction f with
    | zero =>
      intro u hu g hg
      obtain ⟨g, rfl⟩ : ∃ m, g = m + 1 := ⟨g - 1, by omega⟩
      rw [hiDigs_stop _ _ _ (by simpa using hu)]
      exact Nat.le_refl _
    | succ f ih =>
      intro u hu g hg
      obtain ⟨g, rfl⟩ : ∃ m, g = m + 1 := ⟨g - 1, by omega⟩
      by_cases h : u < 16
      · rw [hiDigs_stop _ _ _ h]; omega
      · rw [hiDigs_step _ _ _ h]
        have := ih (u / 16) (by rw [Nat.pow_succ] at hu; omega) g (by omega)
        omega
  have := h8 7 u (by simpa using hu) 64 (by decide)
  omega
theorem repeatL_one (c : UInt8) (n : Nat) : Lib.repeatL [c] n = List.replicate n c := by
  induction n with
  | zero => rfl
  | succ n ih => rw [List.replicate_succ, ← ih]; rfl
set_option maxHeartbeats 1600000 in
theorem last_calls (l : List Int) (hl : l.length ≤ 9223372036854775807) (hb : ∀ c ∈ l, 0 ≤ c ∧ c < 256) (A0 : Option Addr) (c0 : Nat) (w : World) (hG : Gl w) (hr : Kd.C (Kd.int .u8) w A0 l.length l) (hc : l.length ≤ c0) :
    Calls Tryz.prog 25 #[.slice A0 l.length c0] w fun e w' => e = .returned (.string ⟨(lastL l).toArray⟩) ∧ Below w.heap.size w w' := by
  have HS := Lib.hid (Sum_calls l hl hb A0 c0 w hr hc)
  clear hr hc hb
  have hu := (crcSum l).isLt
  have hn := numeral_length _ hu
  go_enter Tryz.func25, Tryz.ntmps25
  go_wp2_with fail
  refine HS.out.mono ?_
  rintro e w1 ⟨rfl, ⟨n, rfl⟩⟩
  go_wp2_with fail
  refine (FormatUint16 (crcSum l).toNat (by omega) _ (hG.drewN n)).mono ?_
  rintro e w2 ⟨rfl, hb2⟩
  have hz : (⟨(numeral 16 (crcSum l).toNat).toArray⟩ : ByteArray).size = (numeral 16 (crcSum l).toNat).length := rfl
  generalize hd : (numeral 16 (crcSum l).toNat) = d at hn hz ⊢
  have HZ := Lib.hid hz
  have h1 : (⟨d.toArray⟩ : ByteArray).size ≤ 8 := by omega
  have HD := Lib.hid hd
  clear hz hd
  go_wp2_with fail
  obtain ⟨c, hc8⟩ : ∃ c : Nat, c = 8 - d.length := ⟨_, rfl⟩
  rw [show (8 - (d.length : Int)) = (c : Int) from by omega]
  refine (Tryz.strings_Repeat ⟨#[48]⟩ c _ (by omega) (by show 1 * c ≤ _; omega)).mono ?_
  rintro e w3 ⟨rfl, hb3⟩
  rw [show Lib.repeatL (⟨#[48]⟩ : ByteArray).data.toList c = List.replicate c 48 from repeatL_one 48 c]
  have hlz : (List.replicate c (48 : UInt8)).length ≤ 8 := by rw [List.length_replicate]; omega
  generalize hzz : List.replicate c (48 : UInt8) = z at hlz ⊢
  have HZZ := Lib.hid hzz
  have HC8 := Lib.hid hc8
  have h2 : (⟨z.toArray⟩ : ByteArray).size ≤ 8 := hlz
  clear hzz hc8
  go_wp2
  go_ret
  refine ⟨?_, ?_⟩
  · have e : lastL l = [115, 117, 109, 32] ++ z ++ d ++ [10] := by
      unfold lastL
      rw [HD.out, ← HZZ.out, HC8.out]
    rw [e]
    rfl
  · exact (below_step (pw_below_drewN (Below.refl _ _) n) hb2) |> fun h => below_step h hb3
end Go.Proofs.YtfnahihdkbgleaaGreatDoor.Z
