/- bytes.LastIndexByte, store.body in the printed form. -/
import Derived.Test.YtfnahihdkbgleaaGreatDoorLex
import Derived.Test.YtfnahihdkbgleaaGreatDoorLast
namespace Go.Proofs.YtfnahihdkbgleaaGreatDoor.Z
set_option linter.unusedVariables false
open Go.RowKit Go.Proofs.YtfnahihdkbgleaaGreatDoorW.PrintWords
/-- How many bytes there are up to the last line end, with it. -/
def cutAt (l : List Int) : Nat := l.length - (l.reverse.takeWhile (fun c => decide (c ≠ 10))).length
theorem cut_of {l : List Int} {k : Nat} (hk : k ≤ l.length) (h : ∀ j, k ≤ j → j < l.length → l.getD j 0 ≠ 10) (h0 : k = 0 ∨ l.getD (k - 1) 0 = 10) : cutAt l = k := by
  have e : l.reverse = (l.drop k).reverse ++ (l.take k).reverse := by rw [← List.reverse_append, List.take_append_drop]
  have ha : ∀ c ∈ (l.drop k).reverse, decide (c ≠ 10) = true := by
    intro c hc
    obtain ⟨j, hj, rfl⟩ := List.mem_iff_getElem.1 (List.mem_reverse.1 hc)
    rw [List.length_drop] at hj
    have := h (k + j) (by omega) (by omega)
    rw [List.getElem_drop]
    simpa [List.getD, (by omega : k + j < l.length)] using this
  have ht : ((l.take k).reverse).takeWhile (fun c => decide (c ≠ 10)) = [] := by
    rcases h0 with rfl | h0
    · simp
    · by_cases hz : k = 0
      · subst hz; simp
      · have hlt : k - 1 < l.length := by omega
        have e2 : l.take k = l.take (k - 1) ++ [l[k - 1]] := by
          rw [← List.take_succ_eq_append_getElem hlt]
          congr 1
          omega
        rw [e2, List.reverse_append]
        have : l[k - 1] = 10 := by simpa [List.getD, hlt] using h0
        rw [this]
        rfl
  unfold cutAt
  rw [e, List.takeWhile_append_of_pos ha, ht, List.append_nil, List.length_reverse, List.length_drop]
  omega
set_option maxHeartbeats 1600000 in
set_option maxRecDepth 100000 in
theorem lastByte_inner (l : List Int) (hlen : l.length ≤ 140737488355328) (A0 : Option Addr) (c0 : Nat) (w : World) (hr : Kd.C (Kd.int .u8) w A0 l.length l) :
    Calls Tryz.prog 46 #[.slice A0 l.length c0, .int .u8 10] w fun e w' => e = .returned (.int .i64 ((cutAt l : Int) - 1)) ∧ w' = w := by
  have HRd := Lib.hid (Kd.reads_of_C (d := (0 : Int)) hr)
  clear hr
  go_enter Tryz.func46, Tryz.ntmps46
  go_wp2_with fail
  go_loopw [5] (fun i wr => ∃ (k : Nat), k ≤ l.length ∧ i = .int .i64 ((k : Int) - 1) ∧ (∀ j, k ≤ j → j < l.length → l.getD j 0 ≠ 10) ∧ wr = w) (fun i _ => (intOf i + 1).toNat)
  case atStart => exact ⟨l.length, Nat.le_refl _, by go_num, fun j h1 h2 => absurd h1 (by omega), rfl⟩
  case round =>
    obtain ⟨k, hk, rfl, hE, rfl⟩ := hrel
    have HE := Lib.hid hE
    clear hE
    by_cases h0 : k = 0
    · have HC : Hid (cutAt l = 0) := Lib.hid (by rw [h0] at HE; exact cut_of (Nat.zero_le _) HE.out (.inl rfl))
      subst h0
      go_wp2_with fail
      go_ret
      rw [HC.out]
      exact ⟨rfl, rfl⟩
    · have hge : 0 ≤ (k : Int) - 1 := by omega
      have hge' : 1 ≤ (k : Int) := by omega
      have hwk : IntKind.i64.wrap ((k : Int) - 1 - 1) = (k : Int) - 1 - 1 := by rw [IntKind.wrap_i64]; omega
      have hlt : (k : Int) - 1 < (l.length : Int) := by omega
      obtain ⟨ad, rfl, hx⟩ := ReadsOf.at_ HRd.out ((k : Int) - 1) (by omega) (by omega)
      have hxe : rdOf (0 : Int) l ((k : Int) - 1) = l.getD (k - 1) 0 := by
        unfold rdOf
        congr 1
        omega
      rw [hxe, show ((k : Int) - 1).toNat = k - 1 by omega] at hx
      by_cases h10 : l.getD (k - 1) 0 = 10
      · have HC : Hid (cutAt l = k) := Lib.hid (cut_of hk HE.out (.inr h10))
        rw [h10] at hx
        clear h10 hxe
        go_wp2_with fail
        go_ret
        rw [HC.out]
        exact ⟨rfl, rfl⟩
      · have hb : (l.getD (k - 1) 0 == 10) = false := beq_eq_false_iff_ne.2 h10
        have HN : Hid (∀ j, k - 1 ≤ j → j < l.length → l.getD j 0 ≠ 10) := Lib.hid (fun j hj hl => by
          by_cases hq : k ≤ j
          · exact HE.out j hq hl
          · have : j = k - 1 := by omega
            rw [this]; exact h10)
        generalize l.getD (k - 1) 0 = x at *
        clear h10 hxe
        go_wp2_with fail
        go_roundw
        case rel => exact ⟨k - 1, by omega, by go_num, HN.out, (by first | rfl | trivial)⟩
        case measure =>
          simp [intOf]
          omega
set_option maxHeartbeats 1600000 in
theorem lastByte_calls (l : List Int) (hlen : l.length ≤ 140737488355328) (A0 : Option Addr) (c0 : Nat) (w : World) (hr : Kd.C (Kd.int .u8) w A0 l.length l) :
    Calls Tryz.prog 29 #[.slice A0 l.length c0, .int .u8 10] w fun e w' => e = .returned (.int .i64 ((cutAt l : Int) - 1)) ∧ w' = w := by
  have HI := Lib.hid (lastByte_inner l hlen A0 c0 w hr)
  clear hr
  go_enter Tryz.func29, Tryz.ntmps29
  go_wp2_with (go_at_call 46; refine HI.out.mono ?_; rintro e w1 ⟨rfl, rfl⟩)
  go_ret
  exact ⟨rfl, rfl⟩
def bodyF (b : List Int) : List Int × Int :=
  if Lib.hasSuffix (Lib.bytesOf b) [10] then
    (if Lib.hasPrefix (strOfNums (b.drop (cutAt (b.take (b.length - 1))))).data.toList [115, 117, 109, 32] then
      (if ((strOfNums (b.drop (cutAt (b.take (b.length - 1))))).toList == lastL (b.take (cutAt (b.take (b.length - 1))))) then (b.take (cutAt (b.take (b.length - 1))), 0) else ([], 5))
     else ([], 4))
  else ([], 4)
/-- The slice that body hands back. -/
def bodyV (A0 : Option Addr) (c0 : Nat) (r : List Int × Int) : Value := if r.2 = 0 then .slice A0 r.1.length c0 else .slice none 0 0
theorem cut_le (l : List Int) : cutAt l ≤ l.length := Nat.sub_le _ _
set_option maxHeartbeats 1600000 in
set_option maxRecDepth 100000 in
theorem body_calls (b : List Int) (hlen : b.length ≤ 1048576) (hbt : ∀ c ∈ b, 0 ≤ c ∧ c < 256) (A0 : Option Addr) (c0 : Nat) (w : World) (hG : Gl w) (hr : Kd.C (Kd.int .u8) w A0 b.length b) (hc : b.length ≤ c0) :
    Calls Tryz.prog 15 #[.slice A0 b.length c0] w fun e w' => e = .returned (.tuple #[bodyV A0 c0 (bodyF b), .int .i64 (bodyF b).2]) ∧ Below w.heap.size w w' := by
  have hba : Below w.heap.size w (w.alloc (.cells #[.int .u8 10] 5 (1, 2))) := (Below.refl _ _).alloc (Nat.le_refl _) _
  have kc := fun (w : World) (C : Array Value) (n c : Nat) => Lib.run_convert_bytes_const (P := Tryz.prog) w 23 5 C n c Tryz.underlying23 Tryz.underlying5
  have hnl : Lib.BytesIn (w.alloc (.cells #[.int .u8 10] 5 (1, 2))) (some ⟨w.heap.size, 0, none⟩) 1 [10] := fun _ => ⟨w.heap.size, 0, rfl, fun i hi => by
    obtain rfl : i = 0 := by omega
    have hq : (w.alloc (.cells #[.int .u8 10] 5 (1, 2))).heap[w.heap.size]? = some (.cells #[.int .u8 10] 5 (1, 2)) := blk_new w _
    rw [World.cell?, hq]
    rfl⟩
  have hbi : Lib.BytesIn (w.alloc (.cells #[.int .u8 10] 5 (1, 2))) A0 b.length b := fun hn => by
    obtain ⟨ad, rfl, hcc⟩ := (Kd.reads_of_C (d := (0 : Int)) (Kd.C_below hr hba)).2.2 hn
    exact Lib.BytesIn.of_cells hcc hn
  have HS := Lib.hid (Tryz.bytes_HasSuffix_all A0 (some ⟨w.heap.size, 0, none⟩) b.length c0 1 1 b [10] _ rfl rfl hc (by omega) hbi hnl)
  have HR := Lib.hid (Kd.C_below hr hba)
  have HB := Lib.hid hba
  have HG := Lib.hid (Gl.below hba hG)
  have HBT := Lib.hid hbt
  clear hr hba hG hnl hbi hbt
  cases h1 : Lib.hasSuffix (Lib.bytesOf b) (Lib.bytesOf [10])
  · rw [h1] at HS
    have HF : Hid (bodyF b = ([], 4)) := Lib.hid (by unfold bodyF; rw [show ([10] : List UInt8) = Lib.bytesOf [10] from rfl, h1]; rfl)
    clear h1
    go_enter Tryz.func15, Tryz.ntmps15
    go_wp2_with fail
    refine HS.out.mono ?_
    rintro e w2 ⟨rfl, rfl⟩
    go_wp2_with fail
    go_ret2
    rw [HF.out]
    exact ⟨rfl, HB.out⟩
  · rw [h1] at HS
    have hpos : 0 < b.length := by
      rcases Nat.eq_zero_or_pos b.length with h | h
      · rw [List.length_eq_zero_iff.1 h] at h1
        exact absurd h1 (by decide)
      · exact h
    have HF : Hid (bodyF b = if Lib.hasPrefix (strOfNums (b.drop (cutAt (b.take (b.length - 1))))).data.toList [115, 117, 109, 32] then (if ((strOfNums (b.drop (cutAt (b.take (b.length - 1))))).toList == lastL (b.take (cutAt (b.take (b.length - 1))))) then (b.take (cutAt (b.take (b.length - 1))), 0) else ([], 5)) else ([], 4)) := Lib.hid (by unfold bodyF; rw [show ([10] : List UInt8) = Lib.bytesOf [10] from rfl, h1]; rfl)
    clear h1
    obtain ⟨i0, hi0, _, hsz0, _⟩ := info_parts info_u8
    obtain ⟨hs1, hs1r, _⟩ := print_take_of (P := Tryz.prog) (Value.int .u8) (0 : Int) 23 5 .i64 Tryz.underlying23 hi0 hsz0 A0 c0 b ((b.length : Int) - 1) (by omega) (by omega) hc
    rw [show ((b.length : Int) - 1).toNat = b.length - 1 by omega] at hs1 hs1r
    have HLB := Lib.hid (lastByte_calls (b.take (b.length - 1)) (by rw [List.length_take]; omega) A0 c0 _ (Kd.C_of_reads (h1 := fun _ => rfl) (hs1r _ (Kd.reads_of_C HR.out))))
    have hcl := cut_le (b.take (b.length - 1))
    rw [List.length_take] at hcl
    clear hs1r
    generalize cutAt (b.take (b.length - 1)) = a at *
    generalize b.take (b.length - 1) = b1 at *
    have hal : a ≤ b.length := by omega
    obtain ⟨A2, hs2, hs2r, hc2⟩ := print_drop_of (P := Tryz.prog) (Value.int .u8) (0 : Int) 23 5 .i64 Tryz.underlying23 hi0 hsz0 A0 c0 b (a : Int) (by omega) (by omega) hc
    obtain ⟨hs3, hs3r, hc3⟩ := print_take_of (P := Tryz.prog) (Value.int .u8) (0 : Int) 23 5 .i64 Tryz.underlying23 hi0 hsz0 A0 c0 b (a : Int) (by omega) (by omega) hc
    rw [Int.toNat_natCast] at hs2 hs2r hc2 hs3 hs3r hc3
    have hwa : IntKind.i64.wrap ((a : Int) - 1 + 1) = (a : Int) := by rw [IntKind.wrap_i64]; omega
    have hcv := Kd.C_string (P := Tryz.prog) (A := A2) (c := c0 - a) Tryz.underlying23 Tryz.underlying5 Tryz.underlying9 (Kd.C_of_reads (h1 := fun _ => rfl) (hs2r _ (Kd.reads_of_C HR.out)))
    have hr3 := Kd.C_of_reads (h1 := fun _ => rfl) (hs3r _ (Kd.reads_of_C HR.out))
    have HLA := Lib.hid (last_calls (b.take a) (by rw [List.length_take]; omega) (fun c hcm => HBT.out c (List.mem_of_mem_take hcm)) A0 c0 _ HG.out hr3 hc3)
    clear hs2r hs3r hr3 hi0 hsz0 hcl HBT HG HR
    generalize b.drop a = b2 at *
    generalize b.take a = b3 at *
    go_enter Tryz.func15, Tryz.ntmps15
    go_wp2_with fail
    refine HS.out.mono ?_
    rintro e w2 ⟨rfl, rfl⟩
    go_wp2_with fail
    refine HLB.out.mono ?_
    rintro e w3 ⟨rfl, rfl⟩
    go_wp2_with fail
    refine (Tryz.strings_HasPrefix (strOfNums b2) ⟨#[115, 117, 109, 32]⟩ _).mono ?_
    rintro e w4 ⟨rfl, rfl⟩
    rw [show (⟨#[115, 117, 109, 32]⟩ : ByteArray).data.toList = [115, 117, 109, 32] from rfl]
    cases h2 : Lib.hasPrefix (strOfNums b2).data.toList [115, 117, 109, 32]
    · have HF' : Hid (bodyF b = ([], 4)) := Lib.hid (by rw [HF.out, h2]; rfl)
      clear h2
      go_wp2_with fail
      go_ret2
      rw [HF'.out]
      exact ⟨rfl, HB.out⟩
    · have HF' : Hid (bodyF b = if ((strOfNums b2).toList == lastL b3) then (b3, 0) else ([], 5)) := Lib.hid (by rw [HF.out, h2]; rfl)
      clear h2
      go_wp2_with fail
      refine HLA.out.mono ?_
      rintro e w5 ⟨rfl, hb5⟩
      have HB5 := Lib.hid (below_step HB.out hb5)
      clear hb5
      cases h3 : ((strOfNums b2).toList == lastL b3)
      · have HF2 : Hid (bodyF b = ([], 5)) := Lib.hid (by rw [HF'.out, h3]; rfl)
        go_wp2_with fail
        go_ret2
        rw [HF2.out]
        exact ⟨rfl, HB5.out⟩
      · have HF2 : Hid (bodyF b = (b3, 0)) := Lib.hid (by rw [HF'.out, h3]; rfl)
        go_wp2_with fail
        go_ret2
        rw [HF2.out]
        exact ⟨rfl, HB5.out⟩
end Go.Proofs.YtfnahihdkbgleaaGreatDoor.Z
