/- lex.Line, lex.Words, lex.Number in the printed form. -/
import Derived.Test.YtfajplhkbpobiaaDoorClone
import Derived.Test.YtfajplhkbpobiaaDoorShelf
import Derived.Deep.RegionLaw
namespace Go.Proofs.YtfajplhkbpobiaaDoor.Z
set_option linter.unusedVariables false
open Go.RowKit Go.Proofs.YtfajplhkbpobiaaDoorW.PrintWords
/-- b[:j:j]. -/
theorem take_max {α : Type} {P : Program} (enc : α → Value) (d : α) (t e : TypeId) (kl : IntKind) {i : TypeInfo} (ht : P.underlying t = some (.slice e)) (hi : P.info? e = some i) (hsz : i.size = 1) (A : Option Addr) (c : Nat) (xs : List α) (j : Nat) (hm : j ≤ xs.length) (hc : xs.length ≤ c) :
    (∀ W : World, (Instr.slice t (.slice A xs.length c) none (some (.int kl (j : Int))) (some (.int kl (j : Int)))).run P W = .ok (.slice A (xs.take j).length (xs.take j).length) W) ∧
      (∀ w : World, ReadsOf enc d w A xs.length xs → ReadsOf enc d w A (xs.take j).length (xs.take j)) := by
  have hl : (xs.take j).length = j := by rw [List.length_take]; omega
  refine ⟨fun W => ?_, fun w h => by rw [hl]; exact h.take_ j (by omega)⟩
  have hel : P.elem t = e := by simp [Program.elem, ht]
  have hu : P.underlying t = some (.slice (P.elem t)) := by rw [hel]; exact ht
  have ha : (A.map fun x => x.add 0) = A := by cases A <;> simp [Addr.add]
  rw [run_slice_hm W t A xs.length c hu kl kl (j : Int) (j : Int) (by omega) (by omega) (by omega), hel, hl]
  simp [sizeOf, typeInfo, hi, hsz, sliced, Result.andThen, ha]
theorem info_u8 : (Tryd.prog.info? 5).map (fun i => (i.zero, i.size, i.bytes)) = some (some (.int .u8 0), 1, 1) := by kernel_rfl
def lineAt (l : List Int) : Option Nat := l.findIdx? (fun c => decide (c = 10))
def lineF (l : List Int) : List Int × List Int × Int := match lineAt l with
  | none => ([], [], 4)
  | some i => (l.take i, l.drop (i + 1), 0)
def lex_Line.f (l0 : List Int) : Option (List Int × List Int × Int) := if l0.length ≤ 140737488355328 then some (lineF l0) else none
theorem line_none {l : List Int} (h : ∀ j, j < l.length → l.getD j 0 ≠ 10) : lineAt l = none := by
  unfold lineAt
  rw [List.findIdx?_eq_none_iff]
  intro x hx
  obtain ⟨j, hj, rfl⟩ := List.mem_iff_getElem.1 hx
  have := h j hj
  simpa [List.getD, hj] using this
theorem line_some {l : List Int} {k : Nat} (hk : k < l.length) (h : ∀ j, j < k → l.getD j 0 ≠ 10) (h10 : l.getD k 0 = 10) : lineAt l = some k := by
  unfold lineAt
  rw [List.findIdx?_eq_some_iff_getElem]
  refine ⟨hk, ?_, fun j hj => ?_⟩
  · simpa [List.getD, hk] using h10
  · have hjl : j < l.length := by omega
    have := h j hj
    simpa [List.getD, hjl] using this
set_option maxHeartbeats 1600000 in
set_option maxRecDepth 100000 in
theorem line_calls (l : List Int) (hlen : l.length ≤ 140737488355328) (A0 : Option Addr) (c0 : Nat) (w : World) (hr : Kd.C (Kd.int .u8) w A0 l.length l) (hc : l.length ≤ c0) :
    Calls Tryd.prog 23 #[.slice A0 l.length c0] w fun e w' => ∃ v0_ v1_ : Value, e = .returned (.tuple #[v0_, v1_, .int .i64 (lineF l).2.2]) ∧ Kd.R (Kd.int .u8) 5 w' w.heap.size (fun _ => True) v0_ (lineF l).1 ∧ Kd.R (Kd.int .u8) 5 w' w.heap.size (fun _ => True) v1_ (lineF l).2.1 ∧ Below w.heap.size w w' := by
  have HR := Lib.hid hr
  have HRd := Lib.hid (Kd.reads_of_C (d := (0 : Int)) hr)
  clear hr
  obtain ⟨i0, hi0, _, hsz0, _⟩ := info_parts info_u8
  go_enter Tryd.func23, Tryd.ntmps23
  go_wp2_with fail
  go_step3
  go_wp2_with fail
  go_step3
  go_wp2_with fail
  go_loopw [5, 10] (fun a i wr => ∃ (k : Nat), k ≤ l.length ∧ a = .int .i64 (-1) ∧ i = .int .i64 (k : Int) ∧ (∀ j, j < k → l.getD j 0 ≠ 10) ∧ wr = w) (fun _ i _ => l.length - (intOf i).toNat)
  case atStart => exact ⟨0, Nat.zero_le _, rfl, rfl, fun j h => absurd h (by omega), rfl⟩
  case round =>
    obtain ⟨k, hk, rfl, rfl, hE, rfl⟩ := hrel
    by_cases hlt : k < l.length
    · have hlt' : (k : Int) < (l.length : Int) := by omega
      obtain ⟨ad, rfl, hx⟩ := ReadsOf.at_ HRd.out (k : Int) (by omega) (by omega)
      have hxe : rdOf (0 : Int) l (k : Int) = l.getD k 0 := rfl
      rw [hxe, Int.toNat_natCast] at hx
      have HE := Lib.hid hE
      clear hE
      by_cases h10 : l.getD k 0 = 10
      · have HL : Hid (lineF l = (l.take k, l.drop (k + 1), 0)) := Lib.hid (by unfold lineF; rw [line_some hlt HE.out h10])
        rw [h10] at hx
        obtain ⟨ht, hta⟩ := take_max (P := Tryd.prog) (Value.int .u8) (0 : Int) 22 5 .i64 Tryd.underlying22 hi0 hsz0 (some ad) c0 l k hk hc
        obtain ⟨A1, hd, hda, hdc⟩ := print_drop_of (P := Tryd.prog) (Value.int .u8) (0 : Int) 22 5 .i64 Tryd.underlying22 hi0 hsz0 (some ad) c0 l ((k : Int) + 1) (by omega) (by omega) hc
        have e1 : ((k : Int) + 1).toNat = k + 1 := by omega
        rw [e1] at hd hda hdc
        have hw1 : IntKind.i64.wrap ((k : Int) + 1) = (k : Int) + 1 := by rw [IntKind.wrap_i64]; omega
        have h1 := Lib.hid (hta _ HRd.out)
        have h2 := Lib.hid (hda _ HRd.out)
        have HL1 : Hid ((l.take k).length ≤ 140737488355328) := Lib.hid (by rw [List.length_take]; omega)
        have HL2 : Hid ((l.drop (k + 1)).length ≤ 140737488355328) := Lib.hid (by rw [List.length_drop]; omega)
        generalize l.take k = l1 at *
        generalize l.drop (k + 1) = l2 at *
        clear hta hda hxe
        have C1 := Lib.hid (Kd.C_drew (Kd.C_of_reads (h1 := fun _ => rfl) h1.out))
        have C2 := Lib.hid (Kd.C_drew (Kd.C_of_reads (h1 := fun _ => rfl) h2.out))
        have HK1 := Lib.hid (fun W hC => bytes_Clone.calls (some ad) l1.length l1 l1 W hC (Nat.le_refl _) (by unfold bytes_Clone.f; rw [if_pos HL1.out]))
        have HK2 := Lib.hid (fun W hC => bytes_Clone.calls A1 (c0 - (k + 1)) l2 l2 W hC hdc (by unfold bytes_Clone.f; rw [if_pos HL2.out]))
        clear h1 h2 HR HRd HE HL1 HL2 hi0 hsz0
        go_wp2_with fail
        go_region_law (first
          | (go_simp; go_at_call 31; refine (HK1.out _ C1.out).mono ?_; rintro e w1 ⟨v1, rfl, hv1, hb1⟩)
          | (go_simp; go_at_call 31; refine (HK2.out _ (Kd.C_below C2.out hb1)).mono ?_; rintro e w2 ⟨v2, rfl, hv2, hb2⟩))
        go_wp2
        go_simp
        go_ret3
        rw [HL.out]
        exact ⟨_, _, rfl, Kd.R_below hv1 hb2, Kd.R_lower hv2 hb1.size, below_step (below_step (below_drew1 (Below.refl _ _)) hb1) hb2⟩
      · have hb : (l.getD k 0 == 10) = false := beq_eq_false_iff_ne.2 h10
        have HN : Hid (∀ j, j < k + 1 → l.getD j 0 ≠ 10) := Lib.hid (fun j hj => by
          rcases Nat.lt_or_eq_of_le (Nat.le_of_lt_succ hj) with h | rfl
          · exact HE.out j h
          · exact h10)
        generalize l.getD k 0 = x at *
        clear h10
        go_wp2_with fail
        go_roundw
        case rel => exact ⟨k + 1, hlt, (by first | rfl | trivial), by go_num, HN.out, (by first | rfl | trivial)⟩
        case measure =>
          simp [intOf]
          exact Nat.sub_lt_sub_left hlt (Nat.lt_succ_self k)
    · obtain rfl : k = l.length := by omega
      have HL : Hid (lineF l = ([], [], 4)) := Lib.hid (by unfold lineF; rw [line_none hE])
      clear hE
      go_wp2_with fail
      go_simp
      go_ret3
      rw [HL.out]
      exact ⟨_, _, rfl, Kd.R_nil _ _ _ _ _, Kd.R_nil _ _ _ _ _, Below.refl _ _⟩
theorem lex_Line.calls (A0 : Option Addr) (c0 : Nat) (l0 : List Int) (r1 r2 : List Int) (r3 : Int) (w : World) (hr0 : Kd.C (Kd.int .u8) w A0 l0.length l0) (hc0 : l0.length ≤ c0) (h : lex_Line.f l0 = some (r1, r2, r3)) :
    Calls Tryd.prog 23 #[.slice A0 l0.length c0] w fun e w' => ∃ v0_ v1_ : Value, e = .returned (.tuple #[v0_, v1_, .int .i64 r3]) ∧ Kd.R (Kd.int .u8) 5 w' w.heap.size (fun _ => True) v0_ r1 ∧ Kd.R (Kd.int .u8) 5 w' w.heap.size (fun _ => True) v1_ r2 ∧ Below w.heap.size w w' := by
  unfold lex_Line.f at h
  split at h
  · rename_i hle
    have h' := Option.some.inj h
    have hh := line_calls l0 hle A0 c0 w hr0 hc0
    rw [h'] at hh
    exact hh
  · cases h
end Go.Proofs.YtfajplhkbpobiaaDoor.Z
