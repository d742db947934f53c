/- internal/strconv.formatBits at base 16. -/
import Derived.Test.YtfnahihdkbgleaaGreatDoorTz
import Derived.Test.YtfnahihdkbgleaaGreatDoorDig
import Derived.Test.YtfnahihdkbgleaaGreatDoorWWords
import Derived.Deep.LoopGhost
import Derived.Lib.ConvBytes
import Derived.Laws.Bits64b
import Derived.Laws.IdiomStrings
import Derived.Laws.Slices
namespace Go.Proofs.YtfnahihdkbgleaaGreatDoor
open Go.RowKit Go.Proofs.YtfnahihdkbgleaaGreatDoorW.PrintWords
/-- What the rounds keep: the block of digits. -/
structure FmtAt (t : TypeId) (u b m q : Nat) (C : Array Value) (w wr : World) : Prop where
  q1 : 1 ≤ q
  q2 : q ≤ 64
  num : m = u / b ^ (64 - q)
  blk : wr.heap[w.heap.size]? = some (.cells C t (0, 0))
  size : C.size = 65
  digs : C.toList.drop (q + 1) = (lowDigs b (64 - q) u).map fun c => .int .u8 (c.toNat : Int)
  many : hiDigs b q m + (64 - q) = hiDigs b 64 u
  below : Below w.heap.size w wr
theorem FmtAt.cell {t : TypeId} {u b m q : Nat} {C : Array Value} {w wr : World} (h : FmtAt t u b m q C w wr) : wr.cell? ⟨w.heap.size, q, none⟩ = some (C.getD q default) := by
  refine (blk_cell h.blk q).trans ?_
  have := h.size; have := h.q2
  have hq : q < C.size := by omega
  simp [Array.getD, hq]
theorem digs_set {C : Array Value} {n : Nat} (hC : n < C.size) (v : Value) : (C.setIfInBounds n v).toList.drop n = v :: C.toList.drop (n + 1) := by
  rw [Array.toList_setIfInBounds]
  have : n < C.toList.length := by simpa using hC
  rw [List.drop_eq_getElem_cons (by simpa using this), List.drop_set_of_lt (by omega)]
  simp
theorem FmtAt.last {t : TypeId} {u b m q : Nat} {C : Array Value} {w wr : World} (h : FmtAt t u b m q C w wr) :
    (C.setIfInBounds q (.int .u8 ((digC (m % b)).toNat : Int))).toList.drop q = (lowDigs b (64 - q + 1) u).map fun c => .int .u8 (c.toNat : Int) := by
  have := h.size; have := h.q2
  rw [digs_set (by omega), h.digs]
  simp [lowDigs, h.num]
theorem pow_lt64 {b k u : Nat} (hb : 2 ≤ b) (hu : u < 2 ^ 64) (h : b ≤ u / b ^ k) : k + 1 < 64 := by
  have h1 : b ^ (k + 1) ≤ u := by
    rw [Nat.pow_succ, Nat.mul_comm]
    exact (Nat.le_div_iff_mul_le (Nat.pow_pos (by omega))).1 h
  have h2 : 2 ^ (k + 1) ≤ b ^ (k + 1) := Nat.pow_le_pow_left hb _
  have h3 : 2 ^ (k + 1) < 2 ^ 64 := by omega
  exact (Nat.pow_lt_pow_iff_right (by omega)).1 h3
theorem FmtAt.step' {t : TypeId} {u b m q : Nat} {C : Array Value} {w wr : World} (h : FmtAt t u b m (q + 1) C w wr) (hb : 2 ≤ b) (hu : u < 2 ^ 64) (hm : ¬ m < b) :
    FmtAt t u b (m / b) q (C.setIfInBounds (q + 1) (.int .u8 ((digC (m % b)).toNat : Int))) w (wr.setCell ⟨w.heap.size, q + 1, none⟩ (.int .u8 ((digC (m % b)).toNat : Int))) := by
  have h2 := h.q2
  have hp := pow_lt64 (k := 64 - (q + 1)) hb hu (by have := h.num; omega)
  have e : 64 - q = 64 - (q + 1) + 1 := by omega
  refine ⟨by omega, by omega, ?_, blk_set h.blk _ _, by simp [h.size], ?_, ?_, below_set h.below (Nat.le_refl _)⟩
  · rw [e, Nat.pow_succ, ← Nat.div_div_eq_div_mul, ← h.num]
  · rw [h.last, e]
  · have := h.many
    rw [hiDigs_step _ _ _ hm] at this
    omega
theorem FmtAt.q_ge {t : TypeId} {u b m q : Nat} {C : Array Value} {w wr : World} (h : FmtAt t u b m q C w wr) (hb : 2 ≤ b) (hu : u < 2 ^ 64) (hm : ¬ m < b) : 2 ≤ q := by
  have hp := pow_lt64 (k := 64 - q) hb hu (by have := h.num; omega)
  have := h.q2
  omega
theorem FmtAt.step {t : TypeId} {u b m q : Nat} {C : Array Value} {w wr : World} (h : FmtAt t u b m q C w wr) (hb : 2 ≤ b) (hu : u < 2 ^ 64) (hm : ¬ m < b) :
    FmtAt t u b (m / b) (q - 1) (C.setIfInBounds q (.int .u8 ((digC (m % b)).toNat : Int))) w (wr.setCell ⟨w.heap.size, q, none⟩ (.int .u8 ((digC (m % b)).toNat : Int))) := by
  have := h.q_ge hb hu hm
  obtain ⟨q, rfl⟩ : ∃ p, q = p + 1 := ⟨q - 1, by omega⟩
  exact h.step' hb hu hm
theorem digits_at : ∀ (j : Nat) (hj : j < 36), (⟨#[48, 49, 50, 51, 52, 53, 54, 55, 56, 57, 97, 98, 99, 100, 101, 102, 103, 104, 105, 106, 107, 108, 109, 110, 111, 112, 113, 114, 115, 116, 117, 118, 119, 120, 121, 122]⟩ : ByteArray)[j]'hj = digC j := by decide
theorem FmtAt.done {t : TypeId} {u b m q : Nat} {C : Array Value} {w wr : World} (h : FmtAt t u b m q C w wr) (hm : m < b) :
    (C.setIfInBounds q (.int .u8 ((digC (m % b)).toNat : Int))).toList.drop q = (numeral b u).map fun c => .int .u8 (c.toNat : Int) := by
  rw [h.last]
  have h1 := h.many; have := h.q1
  obtain ⟨f, rfl⟩ : ∃ f, q = f + 1 := ⟨q - 1, by omega⟩
  rw [hiDigs_stop _ _ _ hm] at h1
  unfold numeral
  rw [← h1, Nat.zero_add]
theorem FmtAt.mask {t : TypeId} {u m q : Nat} {C : Array Value} {w wr : World} (h : FmtAt t u 16 m q C w wr) (hu : u < 2 ^ 64) : bits .and .u64 (m : Int) 15 = (m : Int) % 16 := by
  have hm : m < 18446744073709551616 := Nat.lt_of_le_of_lt (by rw [h.num]; exact Nat.div_le_self _ _) hu
  have := bits_and_u64_nat m 15 hm (by decide)
  rw [show (15 : Nat) = 2 ^ 4 - 1 from rfl, Nat.and_two_pow_sub_one_eq_mod] at this
  exact this
theorem FmtAt.conv {u m q : Nat} {C : Array Value} {w wr : World} (h : FmtAt 138 u 16 m q C w wr) (hm : m < 16) :
    (convert 23 9 (.slice (some ⟨w.heap.size, q, none⟩) (65 - q) (65 - q))).run Tryz.prog (wr.setCell ⟨w.heap.size, q, none⟩ (.int .u8 ((digC m).toNat : Int))) = .ok (.string ⟨(numeral 16 u).toArray⟩) (wr.setCell ⟨w.heap.size, q, none⟩ (.int .u8 ((digC m).toNat : Int))) := by
  have hd := h.done hm
  rw [Nat.mod_eq_of_lt hm] at hd
  have hl : (numeral 16 u).length = 65 - q := by
    have := congrArg List.length hd
    simp [h.size] at this
    omega
  have hb := blk_set h.blk q (.int .u8 ((digC m).toNat : Int))
  have := run_convert_bytes_back (P := Tryz.prog) (wr.setCell ⟨w.heap.size, q, none⟩ (.int .u8 ((digC m).toNat : Int))) 23 9 5 ⟨w.heap.size, q, none⟩ (65 - q) (numeral 16 u) Tryz.underlying23 Tryz.underlying5 Tryz.underlying9 (fun j hj => by
    rw [Lib.add_plain]
    refine (blk_cell hb (q + j)).trans ?_
    have e := congrArg (·[j]?) hd
    simp only [List.getElem?_drop, List.getElem?_map] at e
    rw [← Array.getElem?_toList, e, List.getElem?_eq_getElem hj]
    rfl)
  rw [hl] at this
  exact this
set_option maxHeartbeats 1600000 in
set_option maxRecDepth 100000 in
theorem formatBits16 (u : Nat) (hu : u < 2 ^ 64) (w : World) (hG : Gl w) :
    Calls Tryz.prog 84 #[.slice none 0 0, .int .u64 u, .int .i64 16, .bool false, .bool false] w fun e w' => e = .returned (.tuple #[.slice none 0 0, .string ⟨(numeral 16 u).toArray⟩]) ∧ Below w.heap.size w w' := by
  have hb1 : bits .and .i64 16 15 = 0 := by kernel_rfl
  go_enter Tryz.func84, Tryz.ntmps84
  go_wp2_with (first | (go_at_call 113; refine (tz64_at 16 4 15 _ (Gl.alloc hG _) (by decide)).mono ?_; rintro e w' ⟨rfl, rfl⟩) | go_in)
  go_loopw [1, 13] (fun v i wr => ∃ (m q : Nat) (C : Array Value), v = .int .u64 (m : Int) ∧ i = .int .i64 ((q : Int) + 1) ∧ FmtAt 138 u 16 m q C w wr) (fun _ i _ => (intOf i).toNat)
  case atStart => exact ⟨u, 64, Tryz.zeroCells138, rfl, rfl, by omega, by omega, by simp, (heap_alloc_new w _), by kernel_rfl, by simp [lowDigs, Tryz.zeroCells138], by simp, (Below.refl _ _).alloc (Nat.le_refl _) _⟩
  case round =>
    obtain ⟨m, q, C, rfl, rfl, hrel⟩ := hrel
    have HR := Lib.hid hrel
    have hc := hrel.cell
    have hf := blk_frozen hrel.blk q
    have hq2 : (q : Int) ≤ 64 := by have := hrel.q2; omega
    clear hrel
    by_cases hlt : m < 16
    · have hlt' : (m : Int) < 16 := by omega
      have hbd : 0 ≤ (m : Int) ∧ (m : Int) < 36 := by omega
      have hdig := digits_at m (by omega)
      have hsl : ∀ W, (Instr.sliceAt 138 (.pointer (some ⟨w.heap.size, 0, none⟩)) (some (.int .i64 (q : Int))) none none).run Tryz.prog W = .ok (.slice (some ⟨w.heap.size, q, none⟩) (65 - q) (65 - q)) W := fun W => by
        have hal : Tryz.prog.arrayLen 138 = 65 := by simp [Program.arrayLen, Tryz.underlying138]
        rw [run_sliceAt_array_l W 138 ⟨w.heap.size, 0, none⟩ (by simp [Program.arrayLen, Program.elem, Tryz.underlying138]) .i64 (q : Int) (by omega) (by rw [hal]; omega)]
        go_simp
        omega
      have hcv : (convert 23 9 (.slice (some ⟨w.heap.size, q, none⟩) (65 - q) (65 - q))).run Tryz.prog (wr.setCell ⟨w.heap.size, q, none⟩ (.int .u8 ((digC m).toNat : Int))) = .ok (.string ⟨(numeral 16 u).toArray⟩) (wr.setCell ⟨w.heap.size, q, none⟩ (.int .u8 ((digC m).toNat : Int))) := HR.out.conv hlt
      go_wp2
      go_ret2
      exact ⟨rfl, below_set HR.out.below (Nat.le_refl _)⟩
    · have hge : (16 : Int) ≤ (m : Int) := by omega
      have hand : bits .and .u64 (m : Int) 15 = (m : Int) % 16 := HR.out.mask hu
      have hbd : 0 ≤ (m : Int) % 16 ∧ (m : Int) % 16 < 36 := by omega
      go_wp2
      go_roundw
      case rel =>
        have hs := HR.out.step (by decide) hu hlt
        have h2 := HR.out.q_ge (by decide) hu hlt
        refine ⟨m / 16, q - 1, C.setIfInBounds q (.int .u8 ((digC (m % 16)).toNat : Int)), by go_num, by rw [show ((q - 1 : Nat) : Int) + 1 = q from by omega], ?_⟩
        simp only [digits_at]
        exact hs
      case measure => simp [intOf]
theorem intFormatUint16 (u : Nat) (hu : u < 2 ^ 64) (w : World) (hG : Gl w) :
    Calls Tryz.prog 62 #[.int .u64 u, .int .i64 16] w fun e w' => e = .returned (.string ⟨(numeral 16 u).toArray⟩) ∧ Below w.heap.size w w' := by
  go_enter Tryz.func62, Tryz.ntmps62
  go_wp2_with (go_at_call 84; refine (formatBits16 u hu _ hG).mono ?_; rintro e w' ⟨rfl, hb⟩)
  go_ret
  exact ⟨rfl, hb⟩
theorem FormatUint16 (u : Nat) (hu : u < 2 ^ 64) (w : World) (hG : Gl w) :
    Calls Tryz.prog 40 #[.int .u64 u, .int .i64 16] w fun e w' => e = .returned (.string ⟨(numeral 16 u).toArray⟩) ∧ Below w.heap.size w w' := by
  go_enter Tryz.func40, Tryz.ntmps40
  go_wp2_with (go_at_call 62; refine (intFormatUint16 u hu _ hG).mono ?_; rintro e w' ⟨rfl, hb⟩)
  go_ret
  exact ⟨rfl, hb⟩
end Go.Proofs.YtfnahihdkbgleaaGreatDoor
