/- strings.IndexRune and ContainsRune at '_.-'; store.named. -/
import Derived.Test.YtfnahihdkbgleaaDoorShelf
import Derived.Test.YtfnahihdkbgleaaDoorGl
import Derived.Test.YtfnahihdkbgleaaDoorWWords
import Derived.Laws.Runes
import Derived.Deep.QuietTactic
import Derived.BigQuiet
namespace Go.Proofs.YtfnahihdkbgleaaDoor
open Go.RowKit Go.Proofs.YtfnahihdkbgleaaDoorW.PrintWords
set_option linter.unusedVariables false
set_option linter.unusedSimpArgs false
def marks : ByteArray := ⟨#[95, 46, 45]⟩
set_option maxHeartbeats 1600000 in
set_option maxRecDepth 100000 in
theorem IndexRune_wide (r : Int) (h1 : 128 ≤ r) (h2 : r ≤ 1114111) (hv : Utf8.valid r = true) (hne : r ≠ 65533) (w : World) :
    Calls Tryd.prog 36 #[.string marks, .int .i32 r] w fun e w' => e = .returned (.int .i64 (-1)) ∧ Below w.heap.size w w' := by
  have hx := encode_facts r hv h1
  have n1 : ¬ r < 128 := by omega
  have n2 : (r == 65533) = false := beq_eq_false_iff_ne.2 hne
  unfold marks
  go_enter Tryd.func36, Tryd.ntmps36
  go_wp2_with fail
  refine (Tryd.utf8_ValidRune r _).mono ?_
  rintro e w1 ⟨rfl, hw⟩
  rw [hw]
  clear hw w1
  have hvr : Lib.validRune r = true := by
    simp only [Lib.validRune, Utf8.valid, Bool.or_eq_true, Bool.and_eq_true, decide_eq_true_eq] at hv ⊢
    omega
  rw [hvr]
  clear hvr
  go_wp2_with fail
  go_step3
  have hs4 : ((Utf8.encode r).size : Int) ≤ 4 := by omega
  have hs2 : 2 ≤ ((Utf8.encode r).size : Int) := by omega
  have hcase : (Utf8.encode r).size = 2 ∨ (Utf8.encode r).size = 3 ∨ (Utf8.encode r).size = 4 := by omega
  have HX := Lib.hid hx
  clear hx
  rcases hcase with hsz | hsz | hsz
  · have h3 : 128 ≤ ((Utf8.encode r)[1]'(by omega)).toNat := by simpa [hsz] using HX.out.2.2 (by omega)
    have hneq : ((((⟨#[95, 46, 45]⟩ : ByteArray)[1]'(by decide)).toNat : Int) != (((Utf8.encode r)[1]'(by omega)).toNat : Int)) = true := by
      rw [bne_iff_ne]
      show (46 : Int) ≠ _
      omega
    have hib : ∀ c : UInt8, 128 ≤ c.toNat → Lib.indexByte [45] c = -1 := by
      intro c hc
      have : ∀ d : UInt8, d.toNat < 128 → (d == c) = false := fun d hd => beq_eq_false_iff_ne.2 (fun e => by rw [e] at hd; omega)
      simp [Lib.indexByte, this]
    go_wp2_with fail
    refine wp_loop_rounds 1 ?_
    rw [rounds_succ]
    go_wp2_with fail
    go_step3
    go_wp2_with fail
    go_quiet (fail)
    have hb9 : Below w.heap.size w (w.drewN nq) := pw_below_drewN (Below.refl _ _) nq
    generalize w.drewN nq = w9 at hb9 ⊢
    go_wp2_with fail
    go_quiet ((go_at_call 49; exact Calls.quiet_of_same (Tryd.strings_IndexByte _ _ _)))
    go_wp2_with fail
    go_simp
    go_ret
    exact ⟨rfl, pw_below_drewN hb9 _⟩
  · have h3 : 128 ≤ ((Utf8.encode r)[2]'(by omega)).toNat := by simpa [hsz] using HX.out.2.2 (by omega)
    have hneq : ((((⟨#[95, 46, 45]⟩ : ByteArray)[2]'(by decide)).toNat : Int) != (((Utf8.encode r)[2]'(by omega)).toNat : Int)) = true := by
      rw [bne_iff_ne]
      show (45 : Int) ≠ _
      omega
    have hib : ∀ c : UInt8, 128 ≤ c.toNat → Lib.indexByte [] c = -1 := by
      intro c hc
      have : ∀ d : UInt8, d.toNat < 128 → (d == c) = false := fun d hd => beq_eq_false_iff_ne.2 (fun e => by rw [e] at hd; omega)
      simp [Lib.indexByte, this]
    go_wp2_with fail
    refine wp_loop_rounds 1 ?_
    rw [rounds_succ]
    go_wp2_with fail
    go_step3
    go_wp2_with fail
    go_quiet (fail)
    have hb9 : Below w.heap.size w (w.drewN nq) := pw_below_drewN (Below.refl _ _) nq
    generalize w.drewN nq = w9 at hb9 ⊢
    go_wp2_with fail
    go_quiet ((go_at_call 49; exact Calls.quiet_of_same (Tryd.strings_IndexByte _ _ _)))
    go_wp2_with fail
    go_simp
    go_ret
    exact ⟨rfl, pw_below_drewN hb9 _⟩
  · go_wp2_with fail
    refine wp_loop_rounds 1 ?_
    rw [rounds_succ]
    go_wp2
    rw [Exit.noGoto_ret]
    go_ret
    exact ⟨rfl, Below.refl _ _⟩
set_option maxRecDepth 100000 in
theorem IndexRune_bad (r : Int) (h1 : 128 ≤ r) (h2 : r ≤ 1114111) (hv : Lib.validRune r = false) (hne : r ≠ 65533) (w : World) :
    Calls Tryd.prog 36 #[.string marks, .int .i32 r] w fun e w' => e = .returned (.int .i64 (-1)) ∧ Below w.heap.size w w' := by
  have n1 : ¬ r < 128 := by omega
  have n2 : (r == 65533) = false := beq_eq_false_iff_ne.2 hne
  unfold marks
  go_enter Tryd.func36, Tryd.ntmps36
  go_wp2_with fail
  refine (Tryd.utf8_ValidRune r _).mono ?_
  rintro e w1 ⟨rfl, hw⟩
  rw [hw, hv]
  clear hw w1
  go_wp2
  go_ret
  exact ⟨rfl, Below.refl _ _⟩
set_option maxHeartbeats 1600000 in
set_option maxRecDepth 100000 in
theorem IndexRune_err (w : World) :
    Calls Tryd.prog 36 #[.string marks, .int .i32 65533] w fun e w' => e = .returned (.int .i64 (-1)) ∧ Below w.heap.size w w' := by
  unfold marks
  go_enter Tryd.func36, Tryd.ntmps36
  have r0 : ∀ ty, (Instr.next (.pointer (some ⟨w.heap.size, 0, none⟩)) true ty).run Tryd.prog (w.iter ⟨#[95, 46, 45]⟩ 0) = .ok (.tuple #[.bool true, .int .i64 0, .int .i32 95]) (w.iter ⟨#[95, 46, 45]⟩ 1) := fun ty => run_next_ascii w ⟨#[95, 46, 45]⟩ 0 ty (by decide) (by decide)
  have r1 : ∀ ty, (Instr.next (.pointer (some ⟨w.heap.size, 0, none⟩)) true ty).run Tryd.prog (w.iter ⟨#[95, 46, 45]⟩ 1) = .ok (.tuple #[.bool true, .int .i64 1, .int .i32 46]) (w.iter ⟨#[95, 46, 45]⟩ 2) := fun ty => run_next_ascii w ⟨#[95, 46, 45]⟩ 1 ty (by decide) (by decide)
  have r2 : ∀ ty, (Instr.next (.pointer (some ⟨w.heap.size, 0, none⟩)) true ty).run Tryd.prog (w.iter ⟨#[95, 46, 45]⟩ 2) = .ok (.tuple #[.bool true, .int .i64 2, .int .i32 45]) (w.iter ⟨#[95, 46, 45]⟩ 3) := fun ty => run_next_ascii w ⟨#[95, 46, 45]⟩ 2 ty (by decide) (by decide)
  have r3 : ∀ ty, (Instr.next (.pointer (some ⟨w.heap.size, 0, none⟩)) true ty).run Tryd.prog (w.iter ⟨#[95, 46, 45]⟩ 3) = .ok (.tuple #[.bool false]) (w.iter ⟨#[95, 46, 45]⟩ 3) := fun ty => run_next_end w ⟨#[95, 46, 45]⟩ 3 ty (by decide)
  go_wp2_with fail
  refine wp_loop_rounds 4 ?_
  rw [rounds_succ]
  go_wp2_with fail
  rw [rounds_succ]
  go_wp2_with fail
  rw [rounds_succ]
  go_wp2_with fail
  rw [rounds_succ]
  go_wp2_with fail
  go_ret
  exact ⟨rfl, (Below.refl _ _).alloc (Nat.le_refl _) _⟩
/-- Does a letter stand for itself in a name? -/
def oddB (r : Nat) : Bool := (decide (r < 97) || decide (122 < r)) && (decide (r < 65) || decide (90 < r)) && (decide (r < 48) || decide (57 < r)) && !(r == 95 || r == 46 || r == 45)
theorem ContainsRune_calls (r : Nat) (h2 : r ≤ 1114111) (w : World) :
    Calls Tryd.prog 29 #[.string marks, .int .i32 r] w fun e w' => e = .returned (.bool (r == 95 || r == 46 || r == 45)) ∧ Below w.heap.size w w' := by
  have hI : ∃ n : Int, (0 ≤ n ↔ (r == 95 || r == 46 || r == 45) = true) ∧ Calls Tryd.prog 36 #[.string marks, .int .i32 r] w fun e w' => e = .returned (.int .i64 n) ∧ Below w.heap.size w w' := by
    by_cases h1 : r < 128
    · refine ⟨Lib.indexByte marks.data.toList ((r : Int).toNat.toUInt8), ?_, (Tryd.strings_IndexRune_ascii marks r w (by omega) (by omega)).mono ?_⟩
      · rw [Int.toNat_natCast]
        have all : ∀ q, q < 128 → (0 ≤ Lib.indexByte marks.data.toList q.toUInt8 ↔ (q == 95 || q == 46 || q == 45) = true) := by decide +kernel
        exact all r h1
      · rintro e w' ⟨rfl, hw⟩
        rw [hw]
        exact ⟨rfl, Below.refl _ _⟩
    · refine ⟨-1, ?_, ?_⟩
      · have e1 : (r == 95) = false := beq_eq_false_iff_ne.2 (by omega)
        have e2 : (r == 46) = false := beq_eq_false_iff_ne.2 (by omega)
        have e3 : (r == 45) = false := beq_eq_false_iff_ne.2 (by omega)
        rw [e1, e2, e3]
        simp
      · by_cases h3 : r = 65533
        · subst h3
          exact IndexRune_err w
        · by_cases h4 : Utf8.valid (r : Int) = true
          · exact IndexRune_wide r (by omega) (by omega) h4 (by omega) w
          · refine IndexRune_bad r (by omega) (by omega) ?_ (by omega) w
            simp only [Lib.validRune, Utf8.valid, Bool.or_eq_true, Bool.and_eq_true, decide_eq_true_eq] at h4 ⊢
            simp only [decide_eq_false_iff_not]
            omega
  obtain ⟨n, hn, hC⟩ := hI
  have HC := Lib.hid hC
  clear hC
  generalize (r == 95 || r == 46 || r == 45) = b at hn
  by_cases h0 : 0 ≤ n
  · obtain rfl : b = true := hn.1 h0
    clear hn
    go_enter Tryd.func29, Tryd.ntmps29
    go_wp2_with (go_at_call 36; refine HC.out.mono ?_; rintro e w' ⟨rfl, hb⟩)
    go_ret
    exact ⟨by simp [h0], hb⟩
  · obtain rfl : b = false := by
      cases b
      · rfl
      · exact absurd (hn.2 rfl) h0
    clear hn
    go_enter Tryd.func29, Tryd.ntmps29
    go_wp2_with (go_at_call 36; refine HC.out.mono ?_; rintro e w' ⟨rfl, hb⟩)
    go_ret
    exact ⟨by simp [h0], hb⟩
set_option maxHeartbeats 1600000 in
theorem odd_calls (r : Nat) (h2 : r ≤ 1114111) (w : World) :
    Calls Tryd.prog 28 #[.int .i32 r] w fun e w' => e = .returned (.bool (oddB r)) ∧ Below w.heap.size w w' := by
  have HC := Lib.hid (ContainsRune_calls r h2 w)
  have hC : oddB r = ((decide (r < 97) || decide (122 < r)) && (decide (r < 65) || decide (90 < r)) && (decide (r < 48) || decide (57 < r)) && !(r == 95 || r == 46 || r == 45)) := rfl
  generalize (r == 95 || r == 46 || r == 45) = b at HC hC
  have HO := Lib.hid hC
  clear hC
  have fin : ∀ c d : Bool, c = d → ∀ w' : World, Below w.heap.size w w' → (Ending.returned (.bool c) = Ending.returned (.bool d) ∧ Below w.heap.size w w') := fun c d e w' hb => ⟨by rw [e], hb⟩
  have hall : (r ≤ 47) ∨ (48 ≤ r ∧ r ≤ 57) ∨ (58 ≤ r ∧ r ≤ 64) ∨ (65 ≤ r ∧ r ≤ 90) ∨ (91 ≤ r ∧ r ≤ 96) ∨ (97 ≤ r ∧ r ≤ 122) ∨ (123 ≤ r) := by omega
  rcases hall with a | a | a | a | a | a | a
  · have c0a : decide ((r : Int) < 97) = true := by simp; omega
    have c1a : decide ((r : Int) < 65) = true := by simp; omega
    have c2a : decide ((r : Int) < 48) = true := by simp; omega
    go_enter Tryd.func28, Tryd.ntmps28
    go_wp2_with (go_at_call 29; refine HC.out.mono ?_; rintro e w' ⟨rfl, hb⟩)
    go_ret
    refine fin _ _ ?_ _ hb
    rw [HO.out]
    simp; omega
  · have c0a : decide ((r : Int) < 97) = true := by simp; omega
    have c1a : decide ((r : Int) < 65) = true := by simp; omega
    have c2a : decide ((r : Int) < 48) = false := by simp; omega
    have c2b : decide ((57 : Int) < (r : Int)) = false := by simp; omega
    go_enter Tryd.func28, Tryd.ntmps28
    go_wp2
    go_ret
    refine fin _ _ ?_ _ (Below.refl _ _)
    rw [HO.out]
    simp; omega
  · have c0a : decide ((r : Int) < 97) = true := by simp; omega
    have c1a : decide ((r : Int) < 65) = true := by simp; omega
    have c2a : decide ((r : Int) < 48) = false := by simp; omega
    have c2b : decide ((57 : Int) < (r : Int)) = true := by simp; omega
    go_enter Tryd.func28, Tryd.ntmps28
    go_wp2_with (go_at_call 29; refine HC.out.mono ?_; rintro e w' ⟨rfl, hb⟩)
    go_ret
    refine fin _ _ ?_ _ hb
    rw [HO.out]
    simp; omega
  · have c0a : decide ((r : Int) < 97) = true := by simp; omega
    have c1a : decide ((r : Int) < 65) = false := by simp; omega
    have c1b : decide ((90 : Int) < (r : Int)) = false := by simp; omega
    go_enter Tryd.func28, Tryd.ntmps28
    go_wp2
    go_ret
    refine fin _ _ ?_ _ (Below.refl _ _)
    rw [HO.out]
    simp; omega
  · have c0a : decide ((r : Int) < 97) = true := by simp; omega
    have c1a : decide ((r : Int) < 65) = false := by simp; omega
    have c1b : decide ((90 : Int) < (r : Int)) = true := by simp; omega
    have c2a : decide ((r : Int) < 48) = false := by simp; omega
    have c2b : decide ((57 : Int) < (r : Int)) = true := by simp; omega
    go_enter Tryd.func28, Tryd.ntmps28
    go_wp2_with (go_at_call 29; refine HC.out.mono ?_; rintro e w' ⟨rfl, hb⟩)
    go_ret
    refine fin _ _ ?_ _ hb
    rw [HO.out]
    simp; omega
  · have c0a : decide ((r : Int) < 97) = false := by simp; omega
    have c0b : decide ((122 : Int) < (r : Int)) = false := by simp; omega
    go_enter Tryd.func28, Tryd.ntmps28
    go_wp2
    go_ret
    refine fin _ _ ?_ _ (Below.refl _ _)
    rw [HO.out]
    simp; omega
  · have c0a : decide ((r : Int) < 97) = false := by simp; omega
    have c0b : decide ((122 : Int) < (r : Int)) = true := by simp; omega
    have c1a : decide ((r : Int) < 65) = false := by simp; omega
    have c1b : decide ((90 : Int) < (r : Int)) = true := by simp; omega
    have c2a : decide ((r : Int) < 48) = false := by simp; omega
    have c2b : decide ((57 : Int) < (r : Int)) = true := by simp; omega
    go_enter Tryd.func28, Tryd.ntmps28
    go_wp2_with (go_at_call 29; refine HC.out.mono ?_; rintro e w' ⟨rfl, hb⟩)
    go_ret
    refine fin _ _ ?_ _ hb
    rw [HO.out]
    simp; omega
/-- Is a text a name? -/
def namedB (s : ByteArray) : Bool := decide (s.size ≠ 0) && decide (s.size ≤ 64) && !decide (0 ≤ Lib.idxFunc oddB true s)
theorem odd_grows (w : World) : PredGrows Tryd.prog 28 #[] oddB w := fun W x hx hb => odd_calls x hx W
set_option maxHeartbeats 1600000 in
theorem named_calls (s : ByteArray) (w : World) :
    Calls Tryd.prog 20 #[.string s] w fun e w' => e = .returned (.bool (namedB s)) ∧ Below w.heap.size w w' := by
  have HC := Lib.hid (fun W => Tryd.strings_ContainsFunc_grows 28 #[] (enters_of Tryd.func28 (by kernel_rfl) rfl) oddB s W (odd_grows W))
  by_cases h0 : s.size = 0
  · have hz : s.toList = [] := by
      apply List.eq_nil_of_length_eq_zero
      rw [Lib.toList_data, Array.length_toList]
      exact h0
    have hn : namedB s = false := by simp [namedB, h0]
    have HN := Lib.hid hn
    clear hn
    go_enter Tryd.func20, Tryd.ntmps20
    go_wp2
    go_ret
    exact ⟨by rw [HN.out]; simp [hz], Below.refl _ _⟩
  · have hz : ¬ s.toList = [] := by
      intro e
      apply h0
      have := congrArg List.length e
      rw [Lib.toList_data, Array.length_toList] at this
      exact this
    have hz2 : (!s.toList.isEmpty) = true := by simpa using hz
    by_cases h1 : s.size ≤ 64
    · have hn : namedB s = !decide (0 ≤ Lib.idxFunc oddB true s) := by simp [namedB, h0, h1]
      have HN := Lib.hid hn
      clear hn
      have h1' : (s.size : Int) ≤ 64 := by omega
      go_enter Tryd.func20, Tryd.ntmps20
      go_wp2_with (go_at_call 30; refine (HC.out _).mono ?_; rintro e w' ⟨rfl, hb⟩)
      go_ret
      exact ⟨by rw [HN.out]; rfl, hb⟩
    · have hn : namedB s = false := by simp [namedB, h1]
      have HN := Lib.hid hn
      clear hn
      have h1' : ¬ (s.size : Int) ≤ 64 := by omega
      go_enter Tryd.func20, Tryd.ntmps20
      go_wp2
      go_ret
      exact ⟨by rw [HN.out]; rfl, Below.refl _ _⟩
end Go.Proofs.YtfnahihdkbgleaaDoor
