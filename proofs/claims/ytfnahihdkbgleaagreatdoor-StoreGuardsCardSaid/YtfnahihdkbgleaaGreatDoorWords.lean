/- lex.Words in the printed form. -/
import Derived.Test.YtfnahihdkbgleaaGreatDoorZ0
import Derived.Test.YtfnahihdkbgleaaGreatDoorShelf
namespace Go.Proofs.YtfnahihdkbgleaaGreatDoor.Z
set_option linter.unusedVariables false
open Go.RowKit Go.Proofs.YtfnahihdkbgleaaGreatDoorW.PrintWords
def blank : ByteArray := ⟨#[32]⟩
def wordsL (s : ByteArray) : List ByteArray := Lib.splitB blank 0 (Lib.countB s blank) s
def wordsF (l : List Int) : List ByteArray × Int := if l.length = 0 then ([], 0) else if (wordsL (strOfNums l)).any (fun s => s.toList == []) then ([], 5) else (wordsL (strOfNums l), 0)
def lex_Words.f (l0 : List Int) : Option (List ByteArray × Int) := if l0.length < 4294967281 then some (wordsF l0) else none
theorem any_take (l : List ByteArray) (k : Nat) (hk : k < l.length) (h : (l.take k).any (fun s => s.toList == []) = false) : (l.take (k + 1)).any (fun s => s.toList == []) = (l[k].toList == []) := by
  rw [List.take_succ_eq_append_getElem hk, List.any_append, h]
  simp
theorem any_of_take (l : List ByteArray) (k : Nat) (h : (l.take k).any (fun s => s.toList == []) = true) : l.any (fun s => s.toList == []) = true := by
  rw [List.any_eq_true] at h ⊢
  obtain ⟨x, hx, hp⟩ := h
  exact ⟨x, List.mem_of_mem_take hx, hp⟩
theorem nums_size (l : List Int) : (strOfNums l).size = l.length := by simp [strOfNums, ByteArray.size]
set_option maxHeartbeats 1600000 in
set_option maxRecDepth 100000 in
theorem words_calls (l : List Int) (hlen : l.length < 4294967281) (A0 : Option Addr) (c0 : Nat) (w : World) (hG : Gl w) (hr : Kd.C (Kd.int .u8) w A0 l.length l) (hc : l.length ≤ c0) :
    Calls Tryz.prog 32 #[.slice A0 l.length c0] w fun e w' => ∃ v0_ : Value, e = .returned (.tuple #[v0_, .int .i64 (wordsF l).2]) ∧ Kd.R Kd.string 9 w' w.heap.size (fun _ => True) v0_ (wordsF l).1 ∧ Below w.heap.size w w' := by
  by_cases h0 : l.length = 0
  · have HL : Hid (wordsF l = ([], 0)) := Lib.hid (by unfold wordsF; rw [if_pos h0])
    rw [h0]
    clear hr
    go_enter Tryz.func32, Tryz.ntmps32
    go_wp2
    go_ret2
    rw [HL.out]
    exact ⟨_, rfl, Kd.R_nil _ _ _ _ _, Below.refl _ _⟩
  · obtain ⟨m, hm⟩ := hG.mx
    have hcv := Kd.C_string (P := Tryz.prog) (A := A0) (c := c0) Tryz.underlying23 Tryz.underlying5 Tryz.underlying9 hr
    have HS := Lib.hid (Tryz.strings_Split (strOfNums l) blank m w (by rw [nums_size]; exact hlen) hm (by decide))
    have hb0 : ((l.length : Int) == 0) = false := beq_eq_false_iff_ne.2 (by omega)
    have HL : Hid (wordsF l = if (wordsL (strOfNums l)).any (fun s => s.toList == []) then ([], 5) else (wordsL (strOfNums l), 0)) := Lib.hid (by unfold wordsF; rw [if_neg h0])
    have hle := Lib.splitB_all blank (by decide) 0 _ (strOfNums l) rfl
    clear hr hm hG
    go_enter Tryz.func32, Tryz.ntmps32
    go_wp2_with fail
    refine HS.out.mono ?_
    rintro e w1 ⟨rfl, rfl⟩
    rw [← hle]
    have hws : wordsL (strOfNums l) = Lib.splitB blank 0 (Lib.countB (strOfNums l) blank) (strOfNums l) := rfl
    rw [hws] at HL
    have hmax : (Lib.splitB blank 0 (Lib.countB (strOfNums l) blank) (strOfNums l)).length ≤ 4294967282 := by
      rw [hle]
      have := Lib.countB_le blank (by decide) _ (strOfNums l) (Nat.le_refl _)
      rw [nums_size] at this
      have e1 : blank.size = 1 := rfl
      omega
    clear hws hle HS hcv
    generalize Lib.splitB blank 0 (Lib.countB (strOfNums l) blank) (strOfNums l) = ws at *
    have hblk : (w.alloc (.cells (ws.map Value.string).toArray 9)).heap[w.heap.size]? = some (.cells (ws.map Value.string).toArray 9 (0, 0)) := blk_new w _
    have hown := own_lit_of (enc := Value.string) w w.heap.size 9 ws (Nat.le_refl _) (by omega)
    have hW : Kd.R Kd.string 9 (w.alloc (.cells (ws.map Value.string).toArray 9)) w.heap.size (fun _ => True) (.slice (some ⟨w.heap.size, 0, none⟩) ws.length ws.length) ws := Kd.R_of_own (h1 := fun _ => rfl) (ok := fun _ => True) hown (fun _ _ => trivial)
    have HW := Lib.hid hW
    have HB := Lib.hid ((Below.refl w.heap.size w).alloc (Nat.le_refl _) (.cells (ws.map Value.string).toArray 9))
    have HK := Lib.hid hblk
    clear hown hblk hW
    generalize w.alloc (.cells (ws.map Value.string).toArray 9) = w1 at *
    go_wp2_with fail
    go_loopw [15] (fun i wr => ∃ (k : Nat), k ≤ ws.length ∧ i = .int .i64 (k : Int) ∧ (ws.take k).any (fun s => s.toList == []) = false ∧ wr = w1) (fun i _ => ws.length - (intOf i).toNat)
    case atStart => exact ⟨0, Nat.zero_le _, rfl, rfl, rfl⟩
    case round =>
      obtain ⟨k, hk, rfl, hE, rfl⟩ := hrel
      by_cases hlt : k < ws.length
      · have hlt' : (k : Int) < (ws.length : Int) := by omega
        have hx : wr.cell? ⟨w.heap.size, k, none⟩ = some (.string ws[k]) := (blk_cell HK.out k).trans (by simp [hlt])
        have HT := Lib.hid (any_take ws k hlt hE)
        have HA := Lib.hid (any_of_take ws (k + 1))
        generalize ws[k] = x at *
        clear hE
        cases hf : (x.toList == [])
        · rw [hf] at HT
          go_wp2_with fail
          refine ⟨⟨k + 1, hlt, by go_num, HT.out, trivial⟩, ?_⟩
          simp [intOf]
          exact Nat.sub_lt_sub_left hlt (Nat.lt_succ_self k)
        · rw [hf] at HT
          have HL' : Hid (wordsF l = ([], 5)) := Lib.hid (by rw [HL.out, HA.out HT.out, if_pos rfl])
          go_wp2_with fail
          go_ret2
          rw [HL'.out]
          exact ⟨_, rfl, Kd.R_nil _ _ _ _ _, HB.out⟩
      · obtain rfl : k = ws.length := by omega
        rw [List.take_length] at hE
        have HL' : Hid (wordsF l = (ws, 0)) := Lib.hid (by rw [HL.out, hE, if_neg (by decide)])
        clear hE HL
        go_wp2
        go_ret2
        rw [HL'.out]
        exact ⟨_, rfl, HW.out, HB.out⟩
theorem lex_Words.calls (A0 : Option Addr) (c0 : Nat) (l0 : List Int) (r1 : List ByteArray) (r2 : Int) (w : World) (hgl : Gl w) (hr0 : Kd.C (Kd.int .u8) w A0 l0.length l0) (hc0 : l0.length ≤ c0) (h : lex_Words.f l0 = some (r1, r2)) :
    Calls Tryz.prog 32 #[.slice A0 l0.length c0] w fun e w' => ∃ v0_ : Value, e = .returned (.tuple #[v0_, .int .i64 r2]) ∧ Kd.R Kd.string 9 w' w.heap.size (fun _ => True) v0_ r1 ∧ Below w.heap.size w w' := by
  unfold lex_Words.f at h
  split at h
  · rename_i hle
    have h' := Option.some.inj h
    have hh := words_calls l0 hle A0 c0 w hgl hr0 hc0
    rw [h'] at hh
    exact hh
  · cases h
end Go.Proofs.YtfnahihdkbgleaaGreatDoor.Z
