/- wit.place: the line of a bad literal. -/
import Derived.Test.YtfajplhkbpobiaaDoorNumber
import Derived.Test.YtfajplhkbpobiaaDoorLex
import Derived.Lib.SlBytesConst
namespace Go.Proofs.YtfajplhkbpobiaaDoor.Z
set_option linter.unusedVariables false
open Go.RowKit Go.Proofs.YtfajplhkbpobiaaDoorW.PrintWords
def placeF (l : List Int) : Int × Int := if Lib.hasPrefix (Lib.bytesOf l) [98] then numF (strOfNums (l.drop 1)) 1023 else (0, 5)
theorem numF_range (s : ByteArray) (m : Int) (hm : 0 ≤ m) : 0 ≤ (numF s m).1 ∧ (numF s m).1 ≤ m := by
  unfold numF
  split
  · split
    · exact ⟨by simp only; omega, by assumption⟩
    · exact ⟨Int.le_refl _, hm⟩
  · exact ⟨Int.le_refl _, hm⟩
set_option maxHeartbeats 1600000 in
set_option maxRecDepth 100000 in
theorem place_calls (l : List Int) (hlen : l.length ≤ 281474976710656) (A0 : Option Addr) (c0 : Nat) (w : World) (hG : Gl w) (hr : Kd.C (Kd.int .u8) w A0 l.length l) (hc : l.length ≤ c0) :
    Calls Tryd.prog 25 #[.slice A0 l.length c0] w fun e w' => e = .returned (.tuple #[.int .i64 (placeF l).1, .int .i64 (placeF l).2]) ∧ Below w.heap.size w w' := by
  have hba : Below w.heap.size w (w.alloc (.cells #[.int .u8 98] 5 (1, 2))) := (Below.refl _ _).alloc (Nat.le_refl _) _
  have hnl : Lib.BytesIn (w.alloc (.cells #[.int .u8 98] 5 (1, 2))) (some ⟨w.heap.size, 0, none⟩) 1 [98] := fun _ => ⟨w.heap.size, 0, rfl, fun i hi => by
    obtain rfl : i = 0 := by omega
    have hq : (w.alloc (.cells #[.int .u8 98] 5 (1, 2))).heap[w.heap.size]? = some (.cells #[.int .u8 98] 5 (1, 2)) := blk_new w _
    rw [World.cell?, hq]
    rfl⟩
  have hbi : Lib.BytesIn (w.alloc (.cells #[.int .u8 98] 5 (1, 2))) A0 l.length l := fun hn => by
    obtain ⟨ad, rfl, hcc⟩ := (Kd.reads_of_C (d := (0 : Int)) (Kd.C_below hr hba)).2.2 hn
    exact Lib.BytesIn.of_cells hcc hn
  have HS := Lib.hid (Tryd.bytes_CutPrefix_all A0 (some ⟨w.heap.size, 0, none⟩) l.length c0 1 1 l [98] _ rfl rfl hc hbi hnl)
  have kc := fun (w : World) (C : Array Value) (n c : Nat) => Lib.run_convert_bytes_const (P := Tryd.prog) w 22 5 C n c Tryd.underlying22 Tryd.underlying5
  have hbo : Lib.bytesOf [98] = [98] := rfl
  rw [hbo] at HS
  have HR := Lib.hid (Kd.C_below hr hba)
  have HB := Lib.hid hba
  have HG := Lib.hid hG
  have hsp : 0 < l.length → ∃ b o, A0 = some ⟨b, o, none⟩ := fun hp => by
    obtain ⟨b, o, e, _⟩ := hbi hp
    exact ⟨b, o, e⟩
  clear hbi hnl hba hG
  cases hp : Lib.hasPrefix (Lib.bytesOf l) [98]
  · have hV : Lib.trimPrefixV A0 l.length c0 l [98] = .slice A0 l.length c0 := by
      unfold Lib.trimPrefixV
      split
      · unfold Lib.bytesTrimPrefix
        rw [hbo, if_neg]
        rw [hp]
        decide
      · rfl
    have HF : Hid (placeF l = (0, 5)) := Lib.hid (by unfold placeF; rw [hp]; rfl)
    rw [hV, hp] at HS
    clear hp hV hr hsp HR hbo
    go_enter Tryd.func25, Tryd.ntmps25
    go_wp2_with fail
    refine HS.out.mono ?_
    rintro e w1 ⟨rfl, rfl⟩
    go_wp2_with fail
    go_ret2
    rw [HF.out]
    exact ⟨rfl, HB.out⟩
  · have hpos : 0 < l.length := by
      cases l with
      | nil => revert hp; decide
      | cons a t => simp
    obtain ⟨b, o, rfl⟩ := hsp hpos
    have hV : Lib.trimPrefixV (some ⟨b, o, none⟩) l.length c0 l [98] = .slice (if c0 = 1 then some ⟨b, o, none⟩ else some ⟨b, o + 1, none⟩) (l.drop 1).length (c0 - 1) := by
      show Lib.bytesTrimPrefix b o l.length c0 l [98] = _
      unfold Lib.bytesTrimPrefix
      rw [hbo, if_pos hp, List.length_drop]
      rfl
    have hD := Kd.C_drop HR.out (m := 1) (c := c0) (by omega) hc
    have hsame : (if c0 = 1 then some (⟨b, o, none⟩ : Addr) else (some (⟨b, o, none⟩ : Addr)).map (·.add (1 * (Kd.int .u8).sz))) = (if c0 = 1 then some ⟨b, o, none⟩ else some ⟨b, o + 1, none⟩) := rfl
    rw [hsame] at hD
    generalize (if c0 = 1 then some (⟨b, o, none⟩ : Addr) else some ⟨b, o + 1, none⟩) = A1 at *
    have hcv := Kd.C_string (P := Tryd.prog) (A := A1) (c := c0 - 1) Tryd.underlying22 Tryd.underlying5 Tryd.underlying9 hD
    have HF : Hid (placeF l = numF (strOfNums (l.drop 1)) 1023) := Lib.hid (by unfold placeF; rw [hp]; rfl)
    have hsz : (strOfNums (l.drop 1)).size ≤ 281474976710656 := by rw [strOfNums_size, List.length_drop]; omega
    obtain ⟨hr0, hr1⟩ := numF_range (strOfNums (l.drop 1)) 1023 (by decide)
    have hwn : IntKind.i64.wrap (numF (strOfNums (l.drop 1)) 1023).1 = (numF (strOfNums (l.drop 1)) 1023).1 := by rw [IntKind.wrap_i64]; omega
    have HN := Lib.hid (fun (W : World) (hb : Below w.heap.size w W) => number_calls (strOfNums (l.drop 1)) 1023 (by decide) hsz W (Gl.below hb HG.out))
    rw [hV, hp] at HS
    clear hp hV hr hsp HR hbo hpos hD hsz hsame hr0 hr1
    generalize strOfNums (l.drop 1) = s at *
    generalize l.drop 1 = l1 at *
    go_enter Tryd.func25, Tryd.ntmps25
    go_wp2_with fail
    refine HS.out.mono ?_
    rintro e w1 ⟨rfl, rfl⟩
    go_wp2_with fail
    refine (HN.out _ HB.out).mono ?_
    rintro e w2 ⟨rfl, hb2⟩
    have HB2 := Lib.hid (below_step HB.out hb2)
    clear hb2
    go_wp2_with fail
    go_ret2
    rw [HF.out]
    exact ⟨rfl, HB2.out⟩
def wit_place.f (l0 : List Int) : Option (Int × Int) := if l0.length ≤ 281474976710656 then some (placeF l0) else none
theorem wit_place.calls (A0 : Option Addr) (c0 : Nat) (l0 : List Int) (r1 r2 : Int) (w : World) (hgl : Gl w) (hr0 : Kd.C (Kd.int .u8) w A0 l0.length l0) (hc0 : l0.length ≤ c0) (h : wit_place.f l0 = some (r1, r2)) :
    Calls Tryd.prog 25 #[.slice A0 l0.length c0] w fun e w' => e = .returned (.tuple #[.int .i64 r1, .int .i64 r2]) ∧ Below w.heap.size w w' := by
  unfold wit_place.f at h
  split at h
  · rename_i hle
    have h' := Option.some.inj h
    have hh := place_calls l0 hle A0 c0 w hgl hr0 hc0
    rw [h'] at hh
    exact hh
  · cases h
end Go.Proofs.YtfajplhkbpobiaaDoor.Z
