/- store.fine. -/
import Derived.Test.YtfnahihdkbgleaaGreatDoorShelf
import Derived.Test.YtfnahihdkbgleaaGreatDoorGl
import Derived.Test.YtfnahihdkbgleaaGreatDoorWWords
import Derived.Laws.Runes
import Derived.Deep.QuietTactic
import Derived.BigQuiet
import Derived.Test.YtfnahihdkbgleaaGreatDoorFile
/- strings.IndexRune and ContainsRune at '_.-'; store.named. -/
namespace Go.Proofs.YtfnahihdkbgleaaGreatDoor
open Go.RowKit Go.Proofs.YtfnahihdkbgleaaGreatDoorW.PrintWords
set_option linter.unusedVariables false
set_option linter.unusedSimpArgs false
def marks : ByteArray := ⟨#[95, 46, 45]⟩
set_option maxHeartbeats 1600000 in
set_option maxRecDepth 100000 in
theorem IndexRune_wide (r : Int) (h1 : 128 ≤ r) (h2 : r ≤ 1114111) (hv : Utf8.valid r = true) (hne : r ≠ 65533) (w : World) :
    Calls Tryz.prog 68 #[.string marks, .int .i32 r] w fun e w' => e = .returned (.int .i64 (-1)) ∧ Below w.heap.size w w' := by
  have hx := encode_facts r hv h1
  have n1 : ¬ r < 128 := by omega
  have n2 : (r == 65533) = false := beq_eq_false_iff_ne.2 hne
  unfold marks
  go_enter Tryz.func68, Tryz.ntmps68
  go_wp2_with fail
  refine (Tryz.utf8_ValidRune r _).mono ?_
  rintro e w1 ⟨rfl, hw⟩
  rw [hw]
  clear hw w1
  have hvr : Lib.validRune r = true := by
    simp only [Lib.validRune, Utf8.valid, Bool.or_eq_true, Bool.and_eq_true, decide_eq_true_eq] at hv ⊢
    omega
  rw [hvr]
  clear hvr
  go_wp2_with fail
  go_step3
  have hs4 : ((Utf8.encode r).size : Int) ≤ 4 := by omega
  have hs2 : 2 ≤ ((Utf8.encode r).size : Int) := by omega
  have hcase : (Utf8.encode r).size = 2 ∨ (Utf8.encode r).size = 3 ∨ (Utf8.encode r).size = 4 := by omega
  have HX := Lib.hid hx
  clear hx
  rcases hcase with hsz | hsz | hsz
  · have h3 : 128 ≤ ((Utf8.encode r)[1]'(by omega)).toNat := by simpa [hsz] using HX.out.2.2 (by omega)
    have hneq : ((((⟨#[95, 46, 45]⟩ : ByteArray)[1]'(by decide)).toNat : Int) != (((Utf8.encode r)[1]'(by omega)).toNat : Int)) = true := by
      rw [bne_iff_ne]
      show (46 : Int) ≠ _
      omega
    have hib : ∀ c : UInt8, 128 ≤ c.toNat → Lib.indexByte [45] c = -1 := by
      intro c hc
      have : ∀ d : UInt8, d.toNat < 128 → (d == c) = false := fun d hd => beq_eq_false_iff_ne.2 (fun e => by rw [e] at hd; omega)
      simp [Lib.indexByte, this]
    go_wp2_with fail
    refine wp_loop_rounds 1 ?_
    rw [rounds_succ]
    go_wp2_with fail
    go_step3
    go_wp2_with fail
    go_quiet (fail)
    have hb9 : Below w.heap.size w (w.drewN nq) := pw_below_drewN (Below.refl _ _) nq
    generalize w.drewN nq = w9 at hb9 ⊢
    go_wp2_with fail
    go_quiet ((go_at_call 89; exact Calls.quiet_of_same (Tryz.strings_IndexByte _ _ _)))
    go_wp2_with fail
    go_simp
    go_ret
    exact ⟨rfl, pw_below_drewN hb9 _⟩
  · have h3 : 128 ≤ ((Utf8.encode r)[2]'(by omega)).toNat := by simpa [hsz] using HX.out.2.2 (by omega)
    have hneq : ((((⟨#[95, 46, 45]⟩ : ByteArray)[2]'(by decide)).toNat : Int) != (((Utf8.encode r)[2]'(by omega)).toNat : Int)) = true := by
      rw [bne_iff_ne]
      show (45 : Int) ≠ _
      omega
    have hib : ∀ c : UInt8, 128 ≤ c.toNat → Lib.indexByte [] c = -1 := by
      intro c hc
      have : ∀ d : UInt8, d.toNat < 128 → (d == c) = false := fun d hd => beq_eq_false_iff_ne.2 (fun e => by rw [e] at hd; omega)
      simp [Lib.indexByte, this]
    go_wp2_with fail
    refine wp_loop_rounds 1 ?_
    rw [rounds_succ]
    go_wp2_with fail
    go_step3
    go_wp2_with fail
    go_quiet (fail)
    have hb9 : Below w.heap.size w (w.drewN nq) := pw_below_drewN (Below.refl _ _) nq
    generalize w.drewN nq = w9 at hb9 ⊢
    go_wp2_with fail
    go_quiet ((go_at_call 89; exact Calls.quiet_of_same (Tryz.strings_IndexByte _ _ _)))
    go_wp2_with fail
    go_simp
    go_ret
    exact ⟨rfl, pw_below_drewN hb9 _⟩
  · go_wp2_with fail
    refine wp_loop_rounds 1 ?_
    rw [rounds_succ]
    go_wp2
    rw [Exit.noGoto_ret]
    go_ret
    exact ⟨rfl, Below.refl _ _⟩
set_option maxRecDepth 100000 in
theorem IndexRune_bad (r : Int) (h1 : 128 ≤ r) (h2 : r ≤ 1114111) (hv : Lib.validRune r = false) (hne : r ≠ 65533) (w : World) :
    Calls Tryz.prog 68 #[.string marks, .int .i32 r] w fun e w' => e = .returned (.int .i64 (-1)) ∧ Below w.heap.size w w' := by
  have n1 : ¬ r < 128 := by omega
  have n2 : (r == 65533) = false := beq_eq_false_iff_ne.2 hne
  unfold marks
  go_enter Tryz.func68, Tryz.ntmps68
  go_wp2_with fail
  refine (Tryz.utf8_ValidRune r _).mono ?_
  rintro e w1 ⟨rfl, hw⟩
  rw [hw, hv]
  clear hw w1
  go_wp2
  go_ret
  exact ⟨rfl, Below.refl _ _⟩
set_option maxHeartbeats 1600000 in
set_option maxRecDepth 100000 in
theorem IndexRune_err (w : World) :
    Calls Tryz.prog 68 #[.string marks, .int .i32 65533] w fun e w' => e = .returned (.int .i64 (-1)) ∧ Below w.heap.size w w' := by
  unfold marks
  go_enter Tryz.func68, Tryz.ntmps68
  have r0 : ∀ ty, (Instr.next (.pointer (some ⟨w.heap.size, 0, none⟩)) true ty).run Tryz.prog (w.iter ⟨#[95, 46, 45]⟩ 0) = .ok (.tuple #[.bool true, .int .i64 0, .int .i32 95]) (w.iter ⟨#[95, 46, 45]⟩ 1) := fun ty => run_next_ascii w ⟨#[95, 46, 45]⟩ 0 ty (by decide) (by decide)
  have r1 : ∀ ty, (Instr.next (.pointer (some ⟨w.heap.size, 0, none⟩)) true ty).run Tryz.prog (w.iter ⟨#[95, 46, 45]⟩ 1) = .ok (.tuple #[.bool true, .int .i64 1, .int .i32 46]) (w.iter ⟨#[95, 46, 45]⟩ 2) := fun ty => run_next_ascii w ⟨#[95, 46, 45]⟩ 1 ty (by decide) (by decide)
  have r2 : ∀ ty, (Instr.next (.pointer (some ⟨w.heap.size, 0, none⟩)) true ty).run Tryz.prog (w.iter ⟨#[95, 46, 45]⟩ 2) = .ok (.tuple #[.bool true, .int .i64 2, .int .i32 45]) (w.iter ⟨#[95, 46, 45]⟩ 3) := fun ty => run_next_ascii w ⟨#[95, 46, 45]⟩ 2 ty (by decide) (by decide)
  have r3 : ∀ ty, (Instr.next (.pointer (some ⟨w.heap.size, 0, none⟩)) true ty).run Tryz.prog (w.iter ⟨#[95, 46, 45]⟩ 3) = .ok (.tuple #[.bool false]) (w.iter ⟨#[95, 46, 45]⟩ 3) := fun ty => run_next_end w ⟨#[95, 46, 45]⟩ 3 ty (by decide)
  go_wp2_with fail
  refine wp_loop_rounds 4 ?_
  rw [rounds_succ]
  go_wp2_with fail
  rw [rounds_succ]
  go_wp2_with fail
  rw [rounds_succ]
  go_wp2_with fail
  rw [rounds_succ]
  go_wp2_with fail
  go_ret
  exact ⟨rfl, (Below.refl _ _).alloc (Nat.le_refl _) _⟩
/-- Does a letter stand for itself in a name? -/
def oddB (r : Nat) : Bool := (decide (r < 97) || decide (122 < r)) && (decide (r < 65) || decide (90 < r)) && (decide (r < 48) || decide (57 < r)) && !(r == 95 || r == 46 || r == 45)
theorem ContainsRune_calls (r : Nat) (h2 : r ≤ 1114111) (w : World) :
    Calls Tryz.prog 43 #[.string marks, .int .i32 r] w fun e w' => e = .returned (.bool (r == 95 || r == 46 || r == 45)) ∧ Below w.heap.size w w' := by
  have hI : ∃ n : Int, (0 ≤ n ↔ (r == 95 || r == 46 || r == 45) = true) ∧ Calls Tryz.prog 68 #[.string marks, .int .i32 r] w fun e w' => e = .returned (.int .i64 n) ∧ Below w.heap.size w w' := by
    by_cases h1 : r < 128
    · refine ⟨Lib.indexByte marks.data.toList ((r : Int).toNat.toUInt8), ?_, (Tryz.strings_IndexRune_ascii marks r w (by omega) (by omega)).mono ?_⟩
      · rw [Int.toNat_natCast]
        have all : ∀ q, q < 128 → (0 ≤ Lib.indexByte marks.data.toList q.toUInt8 ↔ (q == 95 || q == 46 || q == 45) = true) := by decide +kernel
        exact all r h1
      · rintro e w' ⟨rfl, hw⟩
        rw [hw]
        exact ⟨rfl, Below.refl _ _⟩
    · refine ⟨-1, ?_, ?_⟩
      · have e1 : (r == 95) = false := beq_eq_false_iff_ne.2 (by omega)
        have e2 : (r == 46) = false := beq_eq_false_iff_ne.2 (by omega)
        have e3 : (r == 45) = false := beq_eq_false_iff_ne.2 (by omega)
        rw [e1, e2, e3]
        simp
      · by_cases h3 : r = 65533
        · subst h3
          exact IndexRune_err w
        · by_cases h4 : Utf8.valid (r : Int) = true
          · exact IndexRune_wide r (by omega) (by omega) h4 (by omega) w
          · refine IndexRune_bad r (by omega) (by omega) ?_ (by omega) w
            simp only [Lib.validRune, Utf8.valid, Bool.or_eq_true, Bool.and_eq_true, decide_eq_true_eq] at h4 ⊢
            simp only [decide_eq_false_iff_not]
            omega
  obtain ⟨n, hn, hC⟩ := hI
  have HC := Lib.hid hC
  clear hC
  generalize (r == 95 || r == 46 || r == 45) = b at hn
  by_cases h0 : 0 ≤ n
  · obtain rfl : b = true := hn.1 h0
    clear hn
    go_enter Tryz.func43, Tryz.ntmps43
    go_wp2_with (go_at_call 68; refine HC.out.mono ?_; rintro e w' ⟨rfl, hb⟩)
    go_ret
    exact ⟨by simp [h0], hb⟩
  · obtain rfl : b = false := by
      cases b
      · rfl
      · exact absurd (hn.2 rfl) h0
    clear hn
    go_enter Tryz.func43, Tryz.ntmps43
    go_wp2_with (go_at_call 68; refine HC.out.mono ?_; rintro e w' ⟨rfl, hb⟩)
    go_ret
    exact ⟨by simp [h0], hb⟩
set_option maxHeartbeats 1600000 in
theorem odd_calls (r : Nat) (h2 : r ≤ 1114111) (w : World) :
    Calls Tryz.prog 42 #[.int .i32 r] w fun e w' => e = .returned (.bool (oddB r)) ∧ Below w.heap.size w w' := by
  have HC := Lib.hid (ContainsRune_calls r h2 w)
  have hC : oddB r = ((decide (r < 97) || decide (122 < r)) && (decide (r < 65) || decide (90 < r)) && (decide (r < 48) || decide (57 < r)) && !(r == 95 || r == 46 || r == 45)) := rfl
  generalize (r == 95 || r == 46 || r == 45) = b at HC hC
  have HO := Lib.hid hC
  clear hC
  have fin : ∀ c d : Bool, c = d → ∀ w' : World, Below w.heap.size w w' → (Ending.returned (.bool c) = Ending.returned (.bool d) ∧ Below w.heap.size w w') := fun c d e w' hb => ⟨by rw [e], hb⟩
  have hall : (r ≤ 47) ∨ (48 ≤ r ∧ r ≤ 57) ∨ (58 ≤ r ∧ r ≤ 64) ∨ (65 ≤ r ∧ r ≤ 90) ∨ (91 ≤ r ∧ r ≤ 96) ∨ (97 ≤ r ∧ r ≤ 122) ∨ (123 ≤ r) := by omega
  rcases hall with a | a | a | a | a | a | a
  · have c0a : decide ((r : Int) < 97) = true := by simp; omega
    have c1a : decide ((r : Int) < 65) = true := by simp; omega
    have c2a : decide ((r : Int) < 48) = true := by simp; omega
    go_enter Tryz.func42, Tryz.ntmps42
    go_wp2_with (go_at_call 43; refine HC.out.mono ?_; rintro e w' ⟨rfl, hb⟩)
    go_ret
    refine fin _ _ ?_ _ hb
    rw [HO.out]
    simp; omega
  · have c0a : decide ((r : Int) < 97) = true := by simp; omega
    have c1a : decide ((r : Int) < 65) = true := by simp; omega
    have c2a : decide ((r : Int) < 48) = false := by simp; omega
    have c2b : decide ((57 : Int) < (r : Int)) = false := by simp; omega
    go_enter Tryz.func42, Tryz.ntmps42
    go_wp2
    go_ret
    refine fin _ _ ?_ _ (Below.refl _ _)
    rw [HO.out]
    simp; omega
  · have c0a : decide ((r : Int) < 97) = true := by simp; omega
    have c1a : decide ((r : Int) < 65) = true := by simp; omega
    have c2a : decide ((r : Int) < 48) = false := by simp; omega
    have c2b : decide ((57 : Int) < (r : Int)) = true := by simp; omega
    go_enter Tryz.func42, Tryz.ntmps42
    go_wp2_with (go_at_call 43; refine HC.out.mono ?_; rintro e w' ⟨rfl, hb⟩)
    go_ret
    refine fin _ _ ?_ _ hb
    rw [HO.out]
    simp; omega
  · have c0a : decide ((r : Int) < 97) = true := by simp; omega
    have c1a : decide ((r : Int) < 65) = false := by simp; omega
    have c1b : decide ((90 : Int) < (r : Int)) = false := by simp; omega
    go_enter Tryz.func42, Tryz.ntmps42
    go_wp2
    go_ret
    refine fin _ _ ?_ _ (Below.refl _ _)
    rw [HO.out]
    simp; omega
  · have c0a : decide ((r : Int) < 97) = true := by simp; omega
    have c1a : decide ((r : Int) < 65) = false := by simp; omega
    have c1b : decide ((90 : Int) < (r : Int)) = true := by simp; omega
    have c2a : decide ((r : Int) < 48) = false := by simp; omega
    have c2b : decide ((57 : Int) < (r : Int)) = true := by simp; omega
    go_enter Tryz.func42, Tryz.ntmps42
    go_wp2_with (go_at_call 43; refine HC.out.mono ?_; rintro e w' ⟨rfl, hb⟩)
    go_ret
    refine fin _ _ ?_ _ hb
    rw [HO.out]
    simp; omega
  · have c0a : decide ((r : Int) < 97) = false := by simp; omega
    have c0b : decide ((122 : Int) < (r : Int)) = false := by simp; omega
    go_enter Tryz.func42, Tryz.ntmps42
    go_wp2
    go_ret
    refine fin _ _ ?_ _ (Below.refl _ _)
    rw [HO.out]
    simp; omega
  · have c0a : decide ((r : Int) < 97) = false := by simp; omega
    have c0b : decide ((122 : Int) < (r : Int)) = true := by simp; omega
    have c1a : decide ((r : Int) < 65) = false := by simp; omega
    have c1b : decide ((90 : Int) < (r : Int)) = true := by simp; omega
    have c2a : decide ((r : Int) < 48) = false := by simp; omega
    have c2b : decide ((57 : Int) < (r : Int)) = true := by simp; omega
    go_enter Tryz.func42, Tryz.ntmps42
    go_wp2_with (go_at_call 43; refine HC.out.mono ?_; rintro e w' ⟨rfl, hb⟩)
    go_ret
    refine fin _ _ ?_ _ hb
    rw [HO.out]
    simp; omega
/-- Is a text a name? -/
def namedB (s : ByteArray) : Bool := decide (s.size ≠ 0) && decide (s.size ≤ 64) && !decide (0 ≤ Lib.idxFunc oddB true s)
theorem odd_grows (w : World) : PredGrows Tryz.prog 42 #[] oddB w := fun W x hx hb => odd_calls x hx W
set_option maxHeartbeats 1600000 in
theorem named_calls (s : ByteArray) (w : World) :
    Calls Tryz.prog 27 #[.string s] w fun e w' => e = .returned (.bool (namedB s)) ∧ Below w.heap.size w w' := by
  have HC := Lib.hid (fun W => Tryz.strings_ContainsFunc_grows 42 #[] (enters_of Tryz.func42 (by kernel_rfl) rfl) oddB s W (odd_grows W))
  by_cases h0 : s.size = 0
  · have hz : s.toList = [] := by
      apply List.eq_nil_of_length_eq_zero
      rw [Lib.toList_data, Array.length_toList]
      exact h0
    have hn : namedB s = false := by simp [namedB, h0]
    have HN := Lib.hid hn
    clear hn
    go_enter Tryz.func27, Tryz.ntmps27
    go_wp2
    go_ret
    exact ⟨by rw [HN.out]; simp [hz], Below.refl _ _⟩
  · have hz : ¬ s.toList = [] := by
      intro e
      apply h0
      have := congrArg List.length e
      rw [Lib.toList_data, Array.length_toList] at this
      exact this
    have hz2 : (!s.toList.isEmpty) = true := by simpa using hz
    by_cases h1 : s.size ≤ 64
    · have hn : namedB s = !decide (0 ≤ Lib.idxFunc oddB true s) := by simp [namedB, h0, h1]
      have HN := Lib.hid hn
      clear hn
      have h1' : (s.size : Int) ≤ 64 := by omega
      go_enter Tryz.func27, Tryz.ntmps27
      go_wp2_with (go_at_call 44; refine (HC.out _).mono ?_; rintro e w' ⟨rfl, hb⟩)
      go_ret
      exact ⟨by rw [HN.out]; rfl, hb⟩
    · have hn : namedB s = false := by simp [namedB, h1]
      have HN := Lib.hid hn
      clear hn
      have h1' : ¬ (s.size : Int) ≤ 64 := by omega
      go_enter Tryz.func27, Tryz.ntmps27
      go_wp2
      go_ret
      exact ⟨by rw [HN.out]; rfl, Below.refl _ _⟩
end Go.Proofs.YtfnahihdkbgleaaGreatDoor

namespace Go.Proofs.YtfnahihdkbgleaaGreatDoor.Z
open Go.RowKit Go.Proofs.YtfnahihdkbgleaaGreatDoorW.PrintWords
set_option linter.unusedVariables false
/-- May an item be? -/
def fineB (x : It) : Bool := decide (1 ≤ x.f0) && decide (x.f0 ≤ 4) && namedB x.f1 && decide (x.f2.length ≤ 1048576)
set_option maxHeartbeats 1600000 in
theorem fine_calls (x : It) (A2 : Option Addr) (c2 : Nat) (w : World) :
    Calls Tryz.prog 14 #[.agg #[.int .u8 x.f0, .string x.f1, .slice A2 x.f2.length c2]] w fun e w' => e = .returned (.bool (fineB x)) ∧ Below w.heap.size w w' := by
  have hu := Tryz.underlying37
  have hba : Below w.heap.size w (w.alloc (.cells #[.int .u8 x.f0, .string x.f1, .slice A2 x.f2.length c2] 37)) := (Below.refl _ _).alloc (Nat.le_refl _) _
  by_cases h1 : 1 ≤ x.f0
  · have h1b : decide (1 ≤ x.f0) = true := decide_eq_true h1
    by_cases h4 : x.f0 ≤ 4
    · have h4b : decide (x.f0 ≤ 4) = true := decide_eq_true h4
      have HF : Hid (fineB x = (namedB x.f1 && decide (x.f2.length ≤ 1048576))) := Lib.hid (by unfold fineB; rw [h1b, h4b]; rfl)
      have HN := Lib.hid (fun W => named_calls x.f1 W)
      have HB := Lib.hid hba
      clear hba
      cases hn : namedB x.f1
      · rw [hn] at HF HN
        have HF' : Hid (fineB x = false) := Lib.hid HF.out
        clear HF hn
        go_enter Tryz.func14, Tryz.ntmps14
        go_wp2_with (go_at_call 27; refine (HN.out _).mono ?_; rintro e w' ⟨rfl, hb⟩)
        go_ret
        exact ⟨by rw [HF'.out]; rfl, below_step HB.out hb⟩
      · rw [hn] at HF HN
        have HF' : Hid (fineB x = decide (x.f2.length ≤ 1048576)) := Lib.hid HF.out
        clear HF hn
        go_enter Tryz.func14, Tryz.ntmps14
        go_wp2_with fail
        refine (HN.out _).mono ?_
        rintro e w' ⟨rfl, hb⟩
        have hc2 : w'.cell? ⟨w.heap.size, 2, none⟩ = some (.slice A2 x.f2.length c2) := (blk_cell (blk_below (blk_new w _) hb) 2).trans rfl
        have HB2 := Lib.hid (below_step HB.out hb)
        clear hb
        go_wp2
        go_ret
        refine ⟨?_, HB2.out⟩
        rw [HF'.out]
        simp
        omega
    · have HF : Hid (fineB x = false) := Lib.hid (by unfold fineB; rw [decide_eq_false h4]; simp)
      have h4b : decide (x.f0 ≤ 4) = false := decide_eq_false h4
      have HB := Lib.hid hba
      clear hba
      go_enter Tryz.func14, Tryz.ntmps14
      go_wp2
      go_ret
      exact ⟨by rw [HF.out]; rfl, HB.out⟩
  · have HF : Hid (fineB x = false) := Lib.hid (by unfold fineB; rw [decide_eq_false h1]; simp)
    have h1b : decide (1 ≤ x.f0) = false := decide_eq_false h1
    have HB := Lib.hid hba
    clear hba
    go_enter Tryz.func14, Tryz.ntmps14
    go_wp2
    go_ret
    exact ⟨by rw [HF.out]; rfl, HB.out⟩
end Go.Proofs.YtfnahihdkbgleaaGreatDoor.Z
