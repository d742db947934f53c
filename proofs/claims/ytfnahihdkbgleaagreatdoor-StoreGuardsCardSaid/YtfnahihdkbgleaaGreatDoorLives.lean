/- inquestlaw37.lives is true. -/
import Derived.Test.YtfnahihdkbgleaaGreatDoorZ4
import Derived.Test.YtfnahihdkbgleaaGreatDoorSum
import Derived.Lib.SlBytesConst
import Derived.OneCell
namespace Go.Proofs.YtfnahihdkbgleaaGreatDoor.Z
set_option linter.unusedVariables false
open Go.RowKit Go.Proofs.YtfnahihdkbgleaaGreatDoorW.PrintWords
theorem may_nil : store_May.f [] = some true := by decide +kernel
theorem file_nil : store_file.f [] = some (fileL []) := by decide +kernel
theorem put_nil : store_Put.f [] = some (fileL [], 0) := by
  unfold store_Put.f
  rw [may_nil, file_nil]
  rfl
theorem file_nil_is : fileL [] = [105, 110, 113, 117, 101, 115, 116, 32, 48, 10, 115, 117, 109, 32] ++ toI (lastL (bodyL [])).tail.tail.tail.tail := by decide +kernel
theorem sum_digits : (crcSum [49, 50, 51, 52, 53, 54, 55, 56, 57]).toNat = 3421780262 := by decide +kernel
theorem reads_new (w : World) (xs : List Int) (C : Array Value) (hC : C = (nums .u8 xs).toArray) (e : TypeId) (fz : Nat × Nat) (hl : xs.length ≤ 9223372036854775807) :
    Kd.C (Kd.int .u8) (w.alloc (.cells C e fz)) (some ⟨w.heap.size, 0, none⟩) xs.length xs := by
  subst hC
  refine ⟨rfl, hl, fun _ => ⟨_, rfl, fun j p hj => ⟨[.int .u8 p], rfl, rfl, fun i u hu => ?_⟩⟩⟩
  have hi : i = 0 := by
    have := (List.getElem?_eq_some_iff.1 hu).1
    simpa using this
  subst hi
  simp only [List.getElem?_cons_zero, Option.some.injEq] at hu
  subst hu
  rw [show (Kd.int .u8).sz = 1 from rfl, Nat.mul_one, Nat.add_zero, Lib.add_plain, Nat.zero_add]
  refine (cell_of_row _ _ _ _ _ _ (blk_new w _)).trans ?_
  simp [nums, hj]
set_option maxHeartbeats 1600000 in
set_option maxRecDepth 100000 in
theorem lives_calls (w : World) (hG : Gl w) : Calls Tryz.prog 6 #[] w fun e w' => e = .returned (.bool true) ∧ Below w.heap.size w w' := by
  have HP := Lib.hid (store_Put.calls none 0 [] _ _ w hG (Kd.C_nil _ _) (Nat.le_refl _) put_nil)
  have kc := fun (w : World) (C : Array Value) (n c : Nat) => Lib.run_convert_bytes_const (P := Tryz.prog) w 23 5 C n c Tryz.underlying23 Tryz.underlying5
  go_enter Tryz.func6, Tryz.ntmps6
  go_wp2_with fail
  refine HP.out.mono ?_
  rintro e w1 ⟨v, rfl, hv, hb⟩
  obtain ⟨A, c, rfl, hc, hR⟩ := Kd.R_reads hv
  have HV := Lib.hid hR
  have HB := Lib.hid hb
  clear hv hb hR
  have hlen : (fileL []).length = 23 := by decide +kernel
  go_wp2_with fail
  have hs := Sum_calls [49, 50, 51, 52, 53, 54, 55, 56, 57] (by decide) (by decide) (some ⟨w1.heap.size, 0, none⟩) 9 _ (reads_new w1 [49, 50, 51, 52, 53, 54, 55, 56, 57] _ rfl 5 (9, 10) (by decide)) (by decide)
  rw [sum_digits] at hs
  refine hs.mono ?_
  rintro e w2 ⟨rfl, ⟨m, rfl⟩⟩
  clear hs
  have hb3 : Below w1.heap.size w1 ((w1.alloc (.cells (nums .u8 [49, 50, 51, 52, 53, 54, 55, 56, 57]).toArray 5 (9, 10))).drewN m) := pw_below_drewN ((Below.refl _ _).alloc (Nat.le_refl _) _) m
  generalize (w1.alloc (.cells (nums .u8 [49, 50, 51, 52, 53, 54, 55, 56, 57]).toArray 5 (9, 10))).drewN m = w3 at hb3 ⊢
  have hR3 := Kd.C_below HV.out hb3
  have ht := Kd.C_take hR3 (m := 14) (by rw [hlen]; decide)
  have hcv := Kd.C_string (P := Tryz.prog) (A := A) (c := c) Tryz.underlying23 Tryz.underlying5 Tryz.underlying9 ht
  rw [show (List.take 14 (fileL [])).length = 14 from by decide +kernel, show strOfNums (List.take 14 (fileL [])) = ⟨#[105, 110, 113, 117, 101, 115, 116, 32, 48, 10, 115, 117, 109, 32]⟩ from by decide +kernel] at hcv
  obtain ⟨ad, cs, e1, -, hK, hcc⟩ := Kd.C_get hR3 (0 : Int) 22 (by decide) (by rw [hlen]; decide)
  have hK' : cs = [.int .u8 10] := by
    have : (fileL []).getD 22 0 = 10 := by decide +kernel
    rw [← this]
    exact hK
  subst hK' e1
  have h22 := hcc 0 _ rfl
  rw [show (Kd.int .u8).sz = 1 from rfl, Nat.mul_one, Nat.add_zero] at h22
  have h22' : w3.cell? ⟨ad.block, ad.off + 22, none⟩ = some (.int .u8 10) := h22
  have HB3 := Lib.hid (below_step HB.out hb3)
  have HLEN := Lib.hid hlen
  have hc' : 23 ≤ c := by rw [← hlen]; exact hc
  clear h22 hcc hK ht hR3 hb3 hlen hc HV
  go_wp2
  go_ret
  exact ⟨rfl, HB3.out⟩
def inquestlaw37_lives.f : Option Bool := some true
theorem inquestlaw37_lives.calls (r : Bool) (w : World) (hgl : Gl w) (h : inquestlaw37_lives.f = some r) :
    Calls Tryz.prog 6 #[] w fun e w' => e = .returned (.bool r) ∧ Below w.heap.size w w' := by
  obtain rfl := Option.some.inj h
  exact lives_calls w hgl
end Go.Proofs.YtfnahihdkbgleaaGreatDoor.Z
