/- inquestref01.Write at one number, walked. -/
import Derived.Test.YtfajplhkbpobiaaDoorApp
import Derived.Test.YtfajplhkbpobiaaDoorLex
import Derived.Deep.RegionHeld3
import Derived.Test.YtfajplhkbpobiaaDoorZ3
import Derived.Test.YtfajplhkbpobiaaDoorPNumW
/- inquestref01.Line in the printed form: its rows were made of strings, so they may be read, not appended to. -/
namespace Go.Proofs.YtfajplhkbpobiaaDoor.Z
set_option linter.unusedVariables false
set_option linter.unusedSimpArgs false
open Go.RowKit Go.Proofs.YtfajplhkbpobiaaDoorW.PrintWords
theorem made_C {b : List Int} (hby : ∀ c ∈ b, 0 ≤ c ∧ c < 256) (hl : b.length ≤ 9223372036854775807) {W : World} {g c : Nat} (h : MadeAt b W g c) : Kd.C (Kd.int .u8) W (some ⟨g, 0, none⟩) b.length b := by
  obtain ⟨Wb, h1, _⟩ := h
  refine Kd.C_of_reads (d := (0 : Int)) (h1 := fun _ => rfl) ⟨rfl, hl, fun _ => ⟨_, rfl, fun j hj => ?_⟩⟩
  have h2 := Lib.bytesWorld_cell Wb 5 (strOfNums b) j (by rw [strOfNums_size]; exact hj)
  rw [cell_of_row _ _ j _ _ _ (Lib.bytesWorld_at_new Wb 5 (strOfNums b))] at h2
  rw [Lib.add_plain, Nat.zero_add, cell_of_row W g _ _ _ _ h1, h2]
  have h3 : toI (strOfNums b).data.toList = b := toI_str b hby
  have h4 : (((strOfNums b).data.toList.getD j 0).toNat : Int) = b.getD j 0 := by
    conv => rhs; rw [← h3]
    unfold toI
    simp only [List.getD, List.getElem?_map]
    cases ((strOfNums b).data.toList)[j]? <;> rfl
  rw [h4]
theorem MadeAt.cap_ge {b : List Int} {W : World} {g c : Nat} (h : MadeAt b W g c) : b.length ≤ c := by
  obtain ⟨Wb, _, rfl⟩ := h
  exact grownCap_ge _ _ _ _
theorem MadeAt.lt {b : List Int} {W : World} {g c : Nat} (h : MadeAt b W g c) : g < W.heap.size := by
  obtain ⟨Wb, h1, _⟩ := h
  exact blk_lt h1
theorem MadeAt.made {b : List Int} {W : World} {g c : Nat} (h : MadeAt b W g c) (b' : List Int) : MadeAt b (madeW b' W) g c := by
  obtain ⟨Wb, h1, h2⟩ := h
  exact ⟨Wb, blk_made h1 b', h2⟩
theorem MadeAt.keep {b : List Int} {W W' : World} {g c : Nat} (h : MadeAt b W g c) (hk : W'.heap[g]? = W.heap[g]?) : MadeAt b W' g c := by
  obtain ⟨Wb, h1, h2⟩ := h
  exact ⟨Wb, hk.trans h1, h2⟩
theorem made_V {b : List Int} (hby : ∀ c ∈ b, 0 ≤ c ∧ c < 256) (hl : b.length ≤ 9223372036854775807) {W : World} {g c base : Nat} (h : MadeAt b W g c) (hg : base ≤ g) (e bs : Nat) : Kd.V (Kd.int .u8) e W bs (fun k_ => (base ≤ k_)) (.slice (some ⟨g, 0, none⟩) b.length c) b :=
  Kd.V_mk h.cap_ge (fun W' hW => made_C hby hl (h.keep (hW g hg h.lt)))
def inquestref01_Line.f (l0 : List Int) : Option (List Int × List Int × Int) := if l0.length ≤ 140737488355328 ∧ ∀ c ∈ l0, 0 ≤ c ∧ c < 256 then some (lineF l0) else none
set_option maxHeartbeats 1600000 in
set_option maxRecDepth 100000 in
theorem rline_calls (l : List Int) (hlen : l.length ≤ 140737488355328) (hby : ∀ c ∈ l, 0 ≤ c ∧ c < 256) (A0 : Option Addr) (c0 : Nat) (w : World) (hr : Kd.C (Kd.int .u8) w A0 l.length l) (hc : l.length ≤ c0) :
    Calls Tryd.prog 27 #[.slice A0 l.length c0] w fun e w' => ∃ v0_ v1_ : Value, e = .returned (.tuple #[v0_, v1_, .int .i64 (lineF l).2.2]) ∧ Kd.V (Kd.int .u8) 5 w' w.heap.size (fun k_ => (w.heap.size ≤ k_)) v0_ (lineF l).1 ∧ Kd.V (Kd.int .u8) 5 w' w.heap.size (fun k_ => (w.heap.size ≤ k_)) v1_ (lineF l).2.1 ∧ Below w.heap.size w w' := by
  have HBY := Lib.hid hby
  have HR := Lib.hid hr
  have HRd := Lib.hid (Kd.reads_of_C (d := (0 : Int)) hr)
  clear hr hby
  obtain ⟨i0, hi0, _, hsz0, _⟩ := info_parts info_u8
  go_enter Tryd.func27, Tryd.ntmps27
  go_wp2_with fail
  go_loop [5] (fun i => ∃ (k : Nat), k ≤ l.length ∧ i = .int .i64 (k : Int) ∧ (∀ j, j < k → l.getD j 0 ≠ 10)) (fun i => l.length - (intOf i).toNat)
  case atStart => exact ⟨0, Nat.zero_le _, rfl, fun j h => absurd h (by omega)⟩
  case round =>
    obtain ⟨k, hk, rfl, hE⟩ := hrel
    have HE := Lib.hid hE
    clear hE
    by_cases hlt : k < l.length
    · have hlt' : (k : Int) < (l.length : Int) := by omega
      obtain ⟨ad, rfl, hx⟩ := ReadsOf.at_ HRd.out (k : Int) (by omega) (by omega)
      have hxe : rdOf (0 : Int) l (k : Int) = l.getD k 0 := rfl
      rw [hxe, Int.toNat_natCast] at hx
      by_cases h10 : l.getD k 0 = 10
      · have HL : Hid (lineF l = (l.take k, l.drop (k + 1), 0)) := Lib.hid (by unfold lineF; rw [line_some hlt HE.out h10])
        rw [h10] at hx
        have hne : ((k : Int) == (l.length : Int)) = false := beq_eq_false_iff_ne.2 (by omega)
        obtain ⟨ht, hta, hc1⟩ := print_take_of (P := Tryd.prog) (Value.int .u8) (0 : Int) 22 5 .i64 Tryd.underlying22 hi0 hsz0 (some ad) c0 l (k : Int) (by omega) (by omega) hc
        obtain ⟨A1, hd, hda, hdc⟩ := print_drop_of (P := Tryd.prog) (Value.int .u8) (0 : Int) 22 5 .i64 Tryd.underlying22 hi0 hsz0 (some ad) c0 l ((k : Int) + 1) (by omega) (by omega) hc
        have e1 : ((k : Int) + 1).toNat = k + 1 := by omega
        rw [e1] at hd hda hdc
        rw [Int.toNat_natCast] at ht hta hc1
        have hw1 : IntKind.i64.wrap ((k : Int) + 1) = (k : Int) + 1 := by rw [IntKind.wrap_i64]; omega
        have h1 := Lib.hid (hta _ HRd.out)
        have h2 := Lib.hid (hda _ HRd.out)
        have HL1 : Hid ((l.take k).length ≤ 140737488355328 ∧ ∀ c ∈ l.take k, 0 ≤ c ∧ c < 256) := Lib.hid ⟨by rw [List.length_take]; omega, fun c h => HBY.out c (List.mem_of_mem_take h)⟩
        have HL2 : Hid ((l.drop (k + 1)).length ≤ 140737488355328 ∧ ∀ c ∈ l.drop (k + 1), 0 ≤ c ∧ c < 256) := Lib.hid ⟨by rw [List.length_drop]; omega, fun c h => HBY.out c (List.mem_of_mem_drop h)⟩
        generalize l.take k = l1 at *
        generalize l.drop (k + 1) = l2 at *
        clear hta hda hxe
        have HCV : Hid (∀ W, Below w.heap.size w W → (convert 22 9 (.slice (some ad) l1.length c0)).run Tryd.prog W = .ok (.string (strOfNums l1)) W ∧ (convert 22 9 (.slice A1 l2.length (c0 - (k + 1)))).run Tryd.prog W = .ok (.string (strOfNums l2)) W) := Lib.hid (fun W hb =>
          ⟨Kd.C_string (P := Tryd.prog) Tryd.underlying22 Tryd.underlying5 Tryd.underlying9 (Kd.C_below (Kd.C_of_reads (h1 := fun _ => rfl) h1.out) hb),
           Kd.C_string (P := Tryd.prog) Tryd.underlying22 Tryd.underlying5 Tryd.underlying9 (Kd.C_below (Kd.C_of_reads (h1 := fun _ => rfl) h2.out) hb)⟩)
        have hm1 := made_run l1
        have hm2 := made_run l2
        have hs1 := made_size l1
        have hs2 := made_size l2
        clear HE h1 h2 hi0 hsz0 HR HRd HBY
        go_wp2_with fail
        refine wp_region_noPanic ?_
        refine wp_region_held_drew (S := (fun W => (convert 22 9 (.slice (some ad) l1.length c0)).run Tryd.prog W = .ok (.string (strOfNums l1)) W ∧ (convert 22 9 (.slice A1 l2.length (c0 - (k + 1)))).run Tryd.prog W = .ok (.string (strOfNums l2)) W)) (by kernel_rfl) (HCV.out _ (below_drew1 (Below.refl _ _))) (fun hHeld => ?_)
        refine wpAnyH_take (i := 0) (v := .slice (some ad) l.length c0) (by simp only [List.getElem?_toArray, List.getElem?_cons_succ, List.getElem?_cons_zero]; rfl) (by kernel_rfl) (by kernel_rfl) (by kernel_rfl) (fun _ _ _ h => h) (Or.inl ⟨by rfl, by intro W hSw; go_simp⟩) (by assumption) ?_
        (try simp only [Act.put, List.setIfInBounds_toArray, List.set_cons_zero, List.set_cons_succ])
        refine wpAnyH_take (i := 1) (v := .int .i64 (k : Int)) (by simp only [List.getElem?_toArray, List.getElem?_cons_succ, List.getElem?_cons_zero]; rfl) (by kernel_rfl) (by kernel_rfl) (by kernel_rfl) (fun _ _ _ h => h) (Or.inl ⟨by rfl, by intro W hSw; go_simp⟩) (by assumption) ?_
        (try simp only [Act.put, List.setIfInBounds_toArray, List.set_cons_zero, List.set_cons_succ])
        refine wpAnyH_take (i := 2) (v := .slice (some ad) l1.length c0) (by simp only [List.getElem?_toArray, List.getElem?_cons_succ, List.getElem?_cons_zero]; rfl) (by kernel_rfl) (by kernel_rfl) (by kernel_rfl) (fun _ _ _ h => h) (Or.inl ⟨by rfl, by intro W hSw; go_simp⟩) (by assumption) ?_
        (try simp only [Act.put, List.setIfInBounds_toArray, List.set_cons_zero, List.set_cons_succ])
        refine wpAnyH_take (i := 3) (v := .string (strOfNums l1)) (by simp only [List.getElem?_toArray, List.getElem?_cons_succ, List.getElem?_cons_zero]; rfl) (by kernel_rfl) (by kernel_rfl) (by kernel_rfl) (fun _ _ _ h => h) (Or.inl ⟨by rfl, by intro W hSw; go_simp⟩) (by assumption) ?_
        (try simp only [Act.put, List.setIfInBounds_toArray, List.set_cons_zero, List.set_cons_succ])
        refine wpAnyH_take (i := 5) (v := .slice (some ad) l.length c0) (by simp only [List.getElem?_toArray, List.getElem?_cons_succ, List.getElem?_cons_zero]; rfl) (by kernel_rfl) (by kernel_rfl) (by kernel_rfl) (fun _ _ _ h => h) (Or.inl ⟨by rfl, by intro W hSw; go_simp⟩) (by assumption) ?_
        (try simp only [Act.put, List.setIfInBounds_toArray, List.set_cons_zero, List.set_cons_succ])
        refine wpAnyH_take (i := 6) (v := .int .i64 (k : Int)) (by simp only [List.getElem?_toArray, List.getElem?_cons_succ, List.getElem?_cons_zero]; rfl) (by kernel_rfl) (by kernel_rfl) (by kernel_rfl) (fun _ _ _ h => h) (Or.inl ⟨by rfl, by intro W hSw; go_simp⟩) (by assumption) ?_
        (try simp only [Act.put, List.setIfInBounds_toArray, List.set_cons_zero, List.set_cons_succ])
        refine wpAnyH_take (i := 7) (v := .int .i64 ((k : Int) + 1)) (by simp only [List.getElem?_toArray, List.getElem?_cons_succ, List.getElem?_cons_zero]; rfl) (by kernel_rfl) (by kernel_rfl) (by kernel_rfl) (fun _ _ _ h => h) (Or.inl ⟨by rfl, by intro W hSw; go_simp⟩) (by assumption) ?_
        (try simp only [Act.put, List.setIfInBounds_toArray, List.set_cons_zero, List.set_cons_succ])
        refine wpAnyH_take (i := 8) (v := .slice A1 l2.length (c0 - (k + 1))) (by simp only [List.getElem?_toArray, List.getElem?_cons_succ, List.getElem?_cons_zero]; rfl) (by kernel_rfl) (by kernel_rfl) (by kernel_rfl) (fun _ _ _ h => h) (Or.inl ⟨by rfl, by intro W hSw; go_simp⟩) (by assumption) ?_
        (try simp only [Act.put, List.setIfInBounds_toArray, List.set_cons_zero, List.set_cons_succ])
        refine wpAnyH_take (i := 9) (v := .string (strOfNums l2)) (by simp only [List.getElem?_toArray, List.getElem?_cons_succ, List.getElem?_cons_zero]; rfl) (by kernel_rfl) (by kernel_rfl) (by kernel_rfl) (fun _ _ _ h => h) (Or.inl ⟨by rfl, by intro W hSw; go_simp⟩) (by assumption) ?_
        (try simp only [Act.put, List.setIfInBounds_toArray, List.set_cons_zero, List.set_cons_succ])
        refine wpAnyH_ready (rs := [4, 10]) (by kernel_rfl) (by simp) ?_
        refine AllReadyH.cons (by simp only [List.getElem?_toArray, List.getElem?_cons_succ, List.getElem?_cons_zero]; rfl) (fun K hK => ?_) ?_
        · go_simp
          refine hK.out _ _ (HCV.out _ (by repeat (first | assumption | exact Below.refl _ _ | refine below_drew1 ?_ | refine below_made ?_ _))) (fun hHeld => ?_)
          clear hK K
          (try simp only [Act.put, List.setIfInBounds_toArray, List.set_cons_zero, List.set_cons_succ])
          refine wpAnyH_take (i := 11) (v := .slice (some ⟨w.heap.size, 0, none⟩) l1.length (capW l1 w.drew)) (by simp only [List.getElem?_toArray, List.getElem?_cons_succ, List.getElem?_cons_zero]; rfl) (by kernel_rfl) (by kernel_rfl) (by kernel_rfl) (fun _ _ _ h => h) (Or.inl ⟨by rfl, by intro W hSw; go_simp⟩) (by assumption) ?_
          (try simp only [Act.put, List.setIfInBounds_toArray, List.set_cons_zero, List.set_cons_succ])
          refine wpAnyH_ready (rs := [10]) (by kernel_rfl) (by simp) ?_
          refine AllReadyH.cons (by simp only [List.getElem?_toArray, List.getElem?_cons_succ, List.getElem?_cons_zero]; rfl) (fun K hK => ?_) ?_
          · go_simp
            refine hK.out _ _ (HCV.out _ (by repeat (first | assumption | exact Below.refl _ _ | refine below_drew1 ?_ | refine below_made ?_ _))) (fun hHeld => ?_)
            clear hK K
            (try simp only [Act.put, List.setIfInBounds_toArray, List.set_cons_zero, List.set_cons_succ])
            refine wpAnyH_take (i := 12) (v := .slice (some ⟨w.heap.size + 1, 0, none⟩) l2.length (capW l2 (madeW l1 w.drew))) (by simp only [List.getElem?_toArray, List.getElem?_cons_succ, List.getElem?_cons_zero]; rfl) (by kernel_rfl) (by kernel_rfl) (by kernel_rfl) (fun _ _ _ h => h) (Or.inl ⟨by rfl, by intro W hSw; go_simp⟩) (by assumption) ?_
            (try simp only [Act.put, List.setIfInBounds_toArray, List.set_cons_zero, List.set_cons_succ])
            refine wpAnyH_take (i := 13) (v := .int .i64 0) (by simp only [List.getElem?_toArray, List.getElem?_cons_succ, List.getElem?_cons_zero]; rfl) (by kernel_rfl) (by kernel_rfl) (by kernel_rfl) (fun _ _ _ h => h) (Or.inl ⟨by rfl, by intro W hSw; go_simp⟩) (by assumption) ?_
            (try simp only [Act.put, List.setIfInBounds_toArray, List.set_cons_zero, List.set_cons_succ])
            refine wpAnyH_done (by kernel_rfl) ?_ _
            refine NoPanic.normal ?_
            go_wp2
            go_simp
            go_ret3
            rw [HL.out]
            exact ⟨_, _, rfl, made_V HL1.out.2 (by have := HL1.out.1; omega) ((made_at l1 rfl).made l2) (Nat.le_refl _) _ _, made_V HL2.out.2 (by have := HL2.out.1; omega) (made_at l2 (made_size l1 _).symm) (Nat.le_succ _) _ _, below_made (below_made (below_drew1 (Below.refl _ _)) _) _⟩
          exact AllReadyH.nil
        refine AllReadyH.cons (by simp only [List.getElem?_toArray, List.getElem?_cons_succ, List.getElem?_cons_zero]; rfl) (fun K hK => ?_) ?_
        · go_simp
          refine hK.out _ _ (HCV.out _ (by repeat (first | assumption | exact Below.refl _ _ | refine below_drew1 ?_ | refine below_made ?_ _))) (fun hHeld => ?_)
          clear hK K
          (try simp only [Act.put, List.setIfInBounds_toArray, List.set_cons_zero, List.set_cons_succ])
          refine wpAnyH_ready (rs := [4]) (by kernel_rfl) (by simp) ?_
          refine AllReadyH.cons (by simp only [List.getElem?_toArray, List.getElem?_cons_succ, List.getElem?_cons_zero]; rfl) (fun K hK => ?_) ?_
          · go_simp
            refine hK.out _ _ (HCV.out _ (by repeat (first | assumption | exact Below.refl _ _ | refine below_drew1 ?_ | refine below_made ?_ _))) (fun hHeld => ?_)
            clear hK K
            (try simp only [Act.put, List.setIfInBounds_toArray, List.set_cons_zero, List.set_cons_succ])
            refine wpAnyH_take (i := 11) (v := .slice (some ⟨w.heap.size + 1, 0, none⟩) l1.length (capW l1 (madeW l2 w.drew))) (by simp only [List.getElem?_toArray, List.getElem?_cons_succ, List.getElem?_cons_zero]; rfl) (by kernel_rfl) (by kernel_rfl) (by kernel_rfl) (fun _ _ _ h => h) (Or.inl ⟨by rfl, by intro W hSw; go_simp⟩) (by assumption) ?_
            (try simp only [Act.put, List.setIfInBounds_toArray, List.set_cons_zero, List.set_cons_succ])
            refine wpAnyH_take (i := 12) (v := .slice (some ⟨w.heap.size, 0, none⟩) l2.length (capW l2 w.drew)) (by simp only [List.getElem?_toArray, List.getElem?_cons_succ, List.getElem?_cons_zero]; rfl) (by kernel_rfl) (by kernel_rfl) (by kernel_rfl) (fun _ _ _ h => h) (Or.inl ⟨by rfl, by intro W hSw; go_simp⟩) (by assumption) ?_
            (try simp only [Act.put, List.setIfInBounds_toArray, List.set_cons_zero, List.set_cons_succ])
            refine wpAnyH_take (i := 13) (v := .int .i64 0) (by simp only [List.getElem?_toArray, List.getElem?_cons_succ, List.getElem?_cons_zero]; rfl) (by kernel_rfl) (by kernel_rfl) (by kernel_rfl) (fun _ _ _ h => h) (Or.inl ⟨by rfl, by intro W hSw; go_simp⟩) (by assumption) ?_
            (try simp only [Act.put, List.setIfInBounds_toArray, List.set_cons_zero, List.set_cons_succ])
            refine wpAnyH_done (by kernel_rfl) ?_ _
            refine NoPanic.normal ?_
            go_wp2
            go_simp
            go_ret3
            rw [HL.out]
            exact ⟨_, _, rfl, made_V HL1.out.2 (by have := HL1.out.1; omega) (made_at l1 (made_size l2 _).symm) (Nat.le_succ _) _ _, made_V HL2.out.2 (by have := HL2.out.1; omega) ((made_at l2 rfl).made l1) (Nat.le_refl _) _ _, below_made (below_made (below_drew1 (Below.refl _ _)) _) _⟩
          exact AllReadyH.nil
        exact AllReadyH.nil
      · have hb : (l.getD k 0 == 10) = false := beq_eq_false_iff_ne.2 h10
        have HN : Hid (∀ j, j < k + 1 → l.getD j 0 ≠ 10) := Lib.hid (fun j hj => by
          rcases Nat.lt_or_eq_of_le (Nat.le_of_lt_succ hj) with h | rfl
          · exact HE.out j h
          · exact h10)
        generalize l.getD k 0 = x at *
        clear h10
        go_wp2_with fail
        go_round
        case rel => exact ⟨k + 1, hlt, by go_num, HN.out⟩
        case measure =>
          simp [intOf]
          exact Nat.sub_lt_sub_left hlt (Nat.lt_succ_self k)
    · obtain rfl : k = l.length := by omega
      have HL : Hid (lineF l = ([], [], 4)) := Lib.hid (by unfold lineF; rw [line_none HE.out])
      go_wp2_with fail
      go_simp
      go_ret3
      rw [HL.out]
      exact ⟨_, _, rfl, Kd.V_nil _ _ _ _ _, Kd.V_nil _ _ _ _ _, Below.refl _ _⟩
theorem inquestref01_Line.calls (A0 : Option Addr) (c0 : Nat) (l0 : List Int) (r1 r2 : List Int) (r3 : Int) (w : World) (hr0 : Kd.C (Kd.int .u8) w A0 l0.length l0) (hc0 : l0.length ≤ c0) (h : inquestref01_Line.f l0 = some (r1, r2, r3)) :
    Calls Tryd.prog 27 #[.slice A0 l0.length c0] w fun e w' => ∃ v0_ v1_ : Value, e = .returned (.tuple #[v0_, v1_, .int .i64 r3]) ∧ Kd.V (Kd.int .u8) 5 w' w.heap.size (fun k_ => (w.heap.size ≤ k_)) v0_ r1 ∧ Kd.V (Kd.int .u8) 5 w' w.heap.size (fun k_ => (w.heap.size ≤ k_)) v1_ r2 ∧ Below w.heap.size w w' := by
  unfold inquestref01_Line.f at h
  split at h
  · rename_i hle
    have h' := Option.some.inj h
    have hh := rline_calls l0 hle.1 hle.2 A0 c0 w hr0 hc0
    rw [h'] at hh
    exact hh
  · cases h
end Go.Proofs.YtfajplhkbpobiaaDoor.Z

/- A row of bytes of one's own, that may have been made of a string: append behind it. -/
namespace Go.Proofs.YtfajplhkbpobiaaDoor.Z
set_option linter.unusedVariables false
set_option linter.unusedSimpArgs false
open Go.RowKit Go.Proofs.YtfajplhkbpobiaaDoorW.PrintWords
def J (W : World) (B : Nat) (v : Value) (xs : List Int) : Prop :=
  ∃ g C q, v = .slice (some ⟨g, 0, none⟩) xs.length (Array.size C) ∧ B ≤ g ∧ W.heap[g]? = some (.cells C 5 q) ∧ (q = (0, 0) ∨ q = (C.size, C.size + 1)) ∧ xs.length ≤ C.size ∧ ∀ j, j < xs.length → C[j]? = some (.int .u8 (xs.getD j 0))
theorem J.slice {W : World} {B : Nat} {v : Value} {xs : List Int} (h : J W B v xs) : ∃ A c, v = .slice A xs.length c := by
  obtain ⟨g, C, q, rfl, _⟩ := h
  exact ⟨_, _, rfl⟩
theorem J.reads {W : World} {B : Nat} {A : Option Addr} {n c : Nat} {xs : List Int} (h : J W B (.slice A n c) xs) (hl : xs.length ≤ 9223372036854775807) : n = xs.length ∧ xs.length ≤ c ∧ Kd.C (Kd.int .u8) W A xs.length xs := by
  obtain ⟨g, C, q, he, _, hb, _, hle, hC⟩ := h
  injection he with h1 h2 h3
  subst h1; subst h2; subst h3
  refine ⟨rfl, hle, Kd.C_of_reads (d := (0 : Int)) (h1 := fun _ => rfl) ⟨rfl, hl, fun _ => ⟨_, rfl, fun j hj => ?_⟩⟩⟩
  rw [Lib.add_plain, Nat.zero_add, cell_of_row W g _ _ _ _ hb, hC j hj]
theorem J.keep {W W' : World} {B : Nat} {v : Value} {xs : List Int} (h : J W B v xs) (hk : ∀ k, k < W.heap.size → W'.heap[k]? = W.heap[k]?) : J W' B v xs := by
  obtain ⟨g, C, q, rfl, h1, hb, h2⟩ := h
  exact ⟨g, C, q, rfl, h1, (hk g (blk_lt hb)).trans hb, h2⟩
theorem J.below {W W' : World} {B : Nat} {v : Value} {xs : List Int} (h : J W B v xs) (hb : Below W.heap.size W W') : J W' B v xs := h.keep (fun k hk => hb.block k hk)
theorem J.lower {W : World} {B B' : Nat} {v : Value} {xs : List Int} (h : J W B v xs) (hb : B' ≤ B) : J W B' v xs := by
  obtain ⟨g, C, q, rfl, h1, h2⟩ := h
  exact ⟨g, C, q, rfl, by omega, h2⟩
theorem J.of_made {b : List Int} (hby : ∀ c ∈ b, 0 ≤ c ∧ c < 256) (hl : b.length ≤ 9223372036854775807) {W : World} {g c B : Nat} (h : MadeAt b W g c) (hg : B ≤ g) : J W B (.slice (some ⟨g, 0, none⟩) b.length c) b := by
  have hC := made_C hby hl h
  obtain ⟨Wb, h1, rfl⟩ := h
  have hcap : b.length ≤ capW b Wb := grownCap_ge _ _ _ _
  have hss : (strOfNums b).size = b.length := strOfNums_size b
  have hsz : (Lib.bytesCells Wb 5 (strOfNums b)).size = capW b Wb := by
    unfold Lib.bytesCells
    rw [Array.size_append, Array.size_map, Array.size_replicate, hss]
    have : (strOfNums b).data.size = b.length := hss
    show _ + (capW b Wb - b.length) = _
    omega
  refine ⟨g, _, _, by rw [hsz], hg, h1, .inr rfl, by omega, fun j hj => ?_⟩
  obtain ⟨_, _, h3⟩ := Kd.reads_of_C (d := (0 : Int)) hC
  obtain ⟨ad, he, hc⟩ := h3 (by omega)
  injection he with he
  subst he
  have h4 := hc j hj
  rw [Lib.add_plain, Nat.zero_add, cell_of_row W g _ _ _ _ h1] at h4
  exact h4
theorem set_cells_block : ∀ (ms : List Int) (W : World) (g o : Nat) (C : Array Value) (q : Nat × Nat) (t : TypeId), W.heap[g]? = some (.cells C t q) → o + ms.length ≤ C.size →
    ∃ C', (W.setCells g o (ms.map (Value.int .u8))).heap[g]? = some (.cells C' t q) ∧ C'.size = C.size ∧ (∀ j, j < ms.length → C'[o + j]? = some (.int .u8 (ms.getD j 0))) ∧ (∀ j, j < o → C'[j]? = C[j]?) ∧ (∀ k, k ≠ g → (W.setCells g o (ms.map (Value.int .u8))).heap[k]? = W.heap[k]?)
  | [], W, g, o, C, q, t, h, _ => ⟨C, by simpa [World.setCells] using h, rfl, fun j hj => absurd hj (by simp), fun _ _ => rfl, fun _ _ => by simp [World.setCells]⟩
  | m :: ms, W, g, o, C, q, t, h, hle => by
    have h1 : (W.setCell ⟨g, o, none⟩ (.int .u8 m)).heap[g]? = some (.cells (C.setIfInBounds o (.int .u8 m)) t q) := by simp [World.setCell, Array.getElem?_modify, h]
    obtain ⟨C', hb, hs, hin, hlo, hk⟩ := set_cells_block ms (W.setCell ⟨g, o, none⟩ (.int .u8 m)) g (o + 1) _ q t h1 (by simp at hle ⊢; omega)
    have he : W.setCells g o ((m :: ms).map (Value.int .u8)) = (W.setCell ⟨g, o, none⟩ (.int .u8 m)).setCells g (o + 1) (ms.map (Value.int .u8)) := by
      simp [World.setCells]
    rw [he]
    refine ⟨C', hb, by simpa using hs, fun j hj => ?_, fun j hj => ?_, fun k hkg => (hk k hkg).trans (Below.heap_setCell W ⟨g, o, none⟩ _ k hkg)⟩
    · cases j with
      | zero =>
        rw [hlo (o + 0) (by omega)]
        have : o < C.size := by simp at hle; omega
        simp [this]
      | succ j =>
        have := hin j (by simpa using hj)
        rw [show o + (j + 1) = o + 1 + j from by omega, this]
        simp [List.getD]
    · rw [hlo j (by omega), Array.getElem?_setIfInBounds_ne (by omega)]
theorem getD_app (a b : List Int) (j : Nat) : (a ++ b).getD j 0 = if j < a.length then a.getD j 0 else b.getD (j - a.length) 0 := by
  simp only [List.getD]
  split
  · rename_i h; rw [List.getElem?_append_left h]
  · rename_i h; rw [List.getElem?_append_right (by omega)]
/-- append, run. -/
theorem J_run {w0 W : World} (ty : TypeId) {B : Nat} {v : Value} {xs : List Int} (h : J W B v xs) (hB : Below B w0 W) (hBs : B ≤ W.heap.size) (ms : List Int) (hm : 0 < ms.length) (ad : Addr) (c : Nat) (hnews : ∀ j, j < ms.length → W.cell? (ad.add j) = some (.int .u8 (ms.getD j 0))) (hl : xs.length + ms.length ≤ 140737488355328) :
    ∃ v1 w1, (Builtin.append_ #[22, 22] ty #[v, .slice (some ad) ms.length c]).run Tryd.prog W = .ok v1 w1 ∧ J w1 B v1 (xs ++ ms) ∧ Below B w0 w1 := by
  obtain ⟨g, C, q, rfl, hg, hb, hq, hle, hC⟩ := h
  obtain ⟨i0, hi0, hz0, hsz00, hby0⟩ := info_parts info_u8b
  have hsz0 : i0.size = 1 := hsz00
  have hnl : (ms.map (Value.int .u8)).length = ms.length := List.length_map _
  have hnews' : ∀ j u, (ms.map (Value.int .u8))[j]? = some u → W.cell? (ad.add j) = some u := by
    intro j u hu
    have hj : j < ms.length := by
      have := (List.getElem?_eq_some_iff.1 hu).1
      omega
    rw [hnews j hj, ← hu]
    simp [List.getD, hj]
  have hone : ∀ u ∈ ms.map (Value.int .u8), u.oneCell' = true := by
    intro u hu
    obtain ⟨m, _, rfl⟩ := List.mem_map.1 hu
    rfl
  by_cases hroom : xs.length + ms.length ≤ C.size
  · have hr := run_append_room_cells (P := Tryd.prog) W 22 ty 5 i0 Tryd.underlying22 hi0 g 0 xs.length C.size ad ms.length c (ms.map (Value.int .u8)) (by rw [hsz0, hnl, Nat.mul_one]) hnews' hone hroom
      (fun j hj => by
        rw [cell_of_row W g _ _ _ _ hb, hsz0]
        rw [hnl] at hj
        simp
        omega)
      (fun j hj => by
        unfold World.frozen?
        rw [hnl] at hj
        simp only [hb, hsz0]
        rcases hq with rfl | rfl
        · simp
        · simp
          omega)
    obtain ⟨C', h1, h2, h3, h4, h5⟩ := set_cells_block ms W g (0 + xs.length * i0.size) C q _ hb (by rw [hsz0]; omega)
    rw [hsz0] at h1 h3 h4 h5 hr
    refine ⟨_, _, hr, ⟨g, C', q, by rw [h2, List.length_append], hg, h1, by rw [h2]; exact hq, by rw [h2, List.length_append]; exact hroom, fun j hj => ?_⟩, ?_⟩
    · rw [getD_app]
      rw [List.length_append] at hj
      by_cases hjx : j < xs.length
      · rw [if_pos hjx, h4 j (by omega), hC j hjx]
      · rw [if_neg hjx]
        have := h3 (j - xs.length) (by omega)
        rw [show 0 + xs.length * 1 + (j - xs.length) = j from by omega] at this
        exact this
    · have : Below B W (W.setCells g (0 + xs.length * 1) (ms.map (Value.int .u8))) := by
        generalize (0 + xs.length * 1) = o
        have key : ∀ (l : List Value) (o : Nat) (W1 : World), Below B w0 W1 → Below B w0 (W1.setCells g o l) := by
          intro l
          induction l with
          | nil => intro o W1 h; simpa [World.setCells] using h
          | cons x t ih => intro o W1 h; simp only [World.setCells]; exact ih _ _ (h.setCell hg _)
        have key2 : ∀ (l : List Value) (o : Nat) (W1 : World), Below B W W1 → Below B W (W1.setCells g o l) := by
          intro l
          induction l with
          | nil => intro o W1 h; simpa [World.setCells] using h
          | cons x t ih => intro o W1 h; simp only [World.setCells]; exact ih _ _ (h.setCell hg _)
        exact key2 _ _ _ (Below.refl _ _)
      exact hB.trans this
  · have holds : ∀ j u, (encs (Value.int .u8) xs)[j]? = some u → W.cell? ((⟨g, 0, none⟩ : Addr).add j) = some u := by
      intro j u hu
      have hjl : j < xs.length := by
        have := (List.getElem?_eq_some_iff.1 hu).1
        simpa [encs] using this
      rw [Lib.add_plain, Nat.zero_add]
      rw [cell_of_row W g _ C _ _ hb, hC j hjl, ← hu]
      simp [encs, List.getD, hjl]
    obtain ⟨v', w1, hr, hown, hgr⟩ := run_append_arg_grows (P := Tryd.prog) W 22 ty 5 i0 (.int .u8 0) 1 1 Tryd.underlying22 hi0 hz0 hsz0 hby0 rfl (by decide) ⟨g, 0, none⟩ xs.length C.size (encs (Value.int .u8) xs) (by simp [encs]) holds ad ms.length c (ms.map (Value.int .u8)) (by rw [hnl, Nat.mul_one]) hnews' (by omega) (by unfold maxLen; omega) (by omega)
    refine ⟨v', w1, hr, ?_, hB.grown hgr hBs (fun k hk => by cases hk)⟩
    obtain ⟨_, ⟨_, h0⟩ | ⟨g', cap, cur, rfl, hg', hh, hnc, hcm, hcs, hin⟩⟩ := hown
    · omega
    · have hcs' : cur.size = cap := by simpa using hcs
      have hll : (xs ++ ms).length = xs.length + ms.length := List.length_append
      refine ⟨g', cur, (0, 0), by rw [hll, hcs'], by omega, hh, .inl rfl, by omega, fun j hj => ?_⟩
      have hjs : j < cur.size := by omega
      have h2 : (encs (Value.int .u8) xs ++ ms.map (Value.int .u8))[j]? = some (.int .u8 ((xs ++ ms).getD j 0)) := by
        have : encs (Value.int .u8) xs ++ ms.map (Value.int .u8) = (xs ++ ms).map (Value.int .u8) := by simp [encs]
        rw [this, List.getElem?_map]
        unfold List.getD
        rw [List.getElem?_eq_getElem hj]
        rfl
      rw [← hin, List.getElem?_take, if_pos (by omega)] at h2
      simpa using h2
section
variable {ops : Array Oper} {rest : List Oper} {o : Oper} {a : Act} {Q : Exit → Act → World → Prop} {Kc : Act → World → Prop}
/-- append, in a region. -/
theorem J_append {w0 W : World} {B : Nat} {v : Value} {xs : List Int} (h : J W B v xs) (hB : Below B w0 W) (hBs : B ≤ W.heap.size) (ms : List Int) (hm : 0 < ms.length) (ad : Addr) (n c : Nat) (hn : ms.length = n) (hnews : ∀ j, j < ms.length → W.cell? (ad.add j) = some (.int .u8 (ms.getD j 0))) (hl : xs.length + ms.length ≤ 140737488355328)
    (hgd : o.guard = none) (s x : Operand) (ho : o.op = .call { callee := .builtin .append, args := #[s, x], argTypes := #[22, 22] }) (hs : a.eval s = v) (hx : a.eval x = .slice (some ad) n c)
    (k : ∀ v1 w1, J w1 B v1 (xs ++ ms) → Below B w0 w1 → wpList Tryd.prog ops Q rest (a.put o.dst v1) w1) :
    wpList Tryd.prog ops Q (o :: rest) a W := by
  subst hn
  obtain ⟨v1, w1, hr, h1, h2⟩ := J_run o.type h hB hBs ms hm ad c hnews hl
  refine wpList_plain hgd fun K hK => ?_
  unfold Oper.wp execOp
  simp only [ho, resolve, invoke, builtin, Sem.run_bind, Sem.run_pure, Result.andThen_ok, List.map_toArray, List.map_cons, List.map_nil, hs, hx, hr]
  exact hK _ _ (k v1 w1 h1 h2)
end
/-- What was laid just now. -/
theorem news_one (W : World) (m : Int) (t : TypeId) : ∀ j, j < [m].length → (W.alloc (.cells #[.int .u8 m] t)).cell? ((⟨W.heap.size, 0, none⟩ : Addr).add j) = some (.int .u8 ([m].getD j 0)) := by
  intro j hj
  obtain rfl : j = 0 := by simpa using hj
  exact (blk_cell (blk_new W (.cells #[.int .u8 m] t)) 0).trans rfl
theorem news_two (W : World) (m n : Int) (t : TypeId) : ∀ j, j < [m, n].length → (W.alloc (.cells #[.int .u8 m, .int .u8 n] t)).cell? ((⟨W.heap.size, 0, none⟩ : Addr).add j) = some (.int .u8 ([m, n].getD j 0)) := by
  intro j hj
  have hj2 : j < 2 := hj
  match j, hj2 with
  | 0, _ => exact (blk_cell (blk_new W (.cells #[.int .u8 m, .int .u8 n] t)) 0).trans rfl
  | 1, _ => exact (blk_cell (blk_new W (.cells #[.int .u8 m, .int .u8 n] t)) 1).trans rfl
end Go.Proofs.YtfajplhkbpobiaaDoor.Z

/- inquestref05.row and inquestref01.Write, walked. -/
namespace Go.Proofs.YtfajplhkbpobiaaDoor.Z
set_option linter.unusedVariables false
set_option linter.unusedSimpArgs false
open Go.RowKit Go.Proofs.YtfajplhkbpobiaaDoorW.PrintWords
theorem digit_dg (x : Int) (h0 : 0 ≤ x) (h : x ≤ 2) : inquestref05_digit.f x = some (dg x) := by
  have : x = 0 ∨ x = 1 ∨ x = 2 := by omega
  rcases this with rfl | rfl | rfl <;> decide +kernel
set_option maxHeartbeats 3200000 in
set_option maxRecDepth 100000 in
theorem rrow_calls (b l : List Int) (hlen : b.length + l.length ≤ 100000000000) (hby : ∀ c ∈ l, 0 ≤ c ∧ c < 256) (v0 : Value) (A0 : Option Addr) (c0 : Nat) (B : Nat) (w : World) (hB : B ≤ w.heap.size) (hJ : J w B v0 b) (hr : Kd.C (Kd.int .u8) w A0 l.length l) (hc : l.length ≤ c0) (hA : ∀ ad, A0 = some ad → 0 < l.length → ad.block < B) :
    Calls Tryd.prog 21 #[v0, .slice A0 l.length c0] w fun e w' => ∃ v1, e = .returned (.tuple #[v1, .bool (rowF l).2]) ∧ ((rowF l).2 = true → J w' B v1 (b ++ (rowF l).1)) ∧ (∃ A c n, v1 = .slice A n c) ∧ Below B w w' := by
  have HR := Lib.hid hr
  have HBY := Lib.hid hby
  have HJ := Lib.hid hJ
  have HBB := Lib.hid hB
  have HRW : Hid (∀ W, Below B w W → Kd.C (Kd.int .u8) W A0 l.length l) := Lib.hid (fun W hb => by
    refine ⟨hr.1, hr.2.1, fun hn => ?_⟩
    obtain ⟨ad, rfl, hx⟩ := hr.2.2 hn
    refine ⟨ad, rfl, fun j p hj => ?_⟩
    obtain ⟨cs, h1, h2, h3⟩ := hx j p hj
    exact ⟨cs, h1, h2, fun i u hu => (hb.cell (by rw [show ∀ (a : Addr) (n : Nat), (a.add n).block = a.block from fun a n => by unfold Addr.add; split <;> rfl]; exact hA ad rfl hn)).trans (h3 i u hu)⟩)
  clear hr hby hJ hB hA
  go_enter Tryd.func21, Tryd.ntmps21
  go_wp2_with fail
  go_loopw [0, 6] (fun v i wr => ∃ (k : Nat), k ≤ l.length ∧ i = .int .i64 (k : Int) ∧ Hid (J wr B v (b ++ (l.take k).map dg)) ∧ Hid (Below B w wr) ∧ Hid ((l.take k).all (fun v => decide (v ≤ 2)) = true)) (fun _ i _ => l.length - (intOf i).toNat)
  case atStart => exact ⟨0, Nat.zero_le _, rfl, Lib.hid (by rw [List.take_zero, List.map_nil, List.append_nil]; exact HJ.out), Lib.hid (Below.refl _ _), Lib.hid rfl⟩
  case round =>
    obtain ⟨k, hk, rfl, HV, HB, HE⟩ := hrel
    have HBS := Lib.hid (Nat.le_trans HBB.out HB.out.size)
    by_cases hlt : k < l.length
    · have hlt' : (k : Int) < (l.length : Int) := Int.ofNat_lt.2 hlt
      obtain ⟨ad, rfl, hx⟩ := ReadsOf.at_ (Kd.reads_of_C (d := (0 : Int)) (HRW.out _ HB.out)) (k : Int) (by omega) (by omega)
      have hxe : rdOf (0 : Int) l (k : Int) = l[k] := by simp [rdOf, List.getD, hlt]
      rw [hxe, Int.toNat_natCast] at hx
      have hxb := HBY.out _ (List.getElem_mem hlt)
      have HTK : Hid (∀ x, l[k] = x → b ++ (l.take (k + 1)).map dg = (b ++ (l.take k).map dg) ++ [dg x]) := Lib.hid (fun x e => by rw [List.take_succ_eq_append_getElem hlt, List.map_append, e, List.append_assoc]; rfl)
      have HAL : Hid (∀ x, l[k] = x → x ≤ 2 → (l.take (k + 1)).all (fun v => decide (v ≤ 2)) = true) := Lib.hid (fun x e h => by rw [List.take_succ_eq_append_getElem hlt, List.all_append, HE.out, e]; simp [h])
      have HNO : Hid (∀ x, l[k] = x → ¬ x ≤ 2 → rowF l = ([], false)) := Lib.hid (fun x e h => by
        unfold rowF
        rw [if_neg]
        intro ha
        have := List.all_eq_true.1 ha _ (List.getElem_mem hlt)
        rw [e] at this
        exact h (by simpa using this))
      have hlk : (b ++ (l.take k).map dg).length + 1 ≤ 140737488355328 := by rw [List.length_append, List.length_map, List.length_take]; omega
      have HLK := Lib.hid hlk
      clear hxe hlk
      generalize hxx : l[k] = x at *
      clear hxx
      by_cases h2 : x ≤ 2
      · have h2' : ¬ 2 < x := by omega
        obtain ⟨v', hv'⟩ : ∃ v', v' = b ++ (l.take k).map dg := ⟨_, rfl⟩
        rw [← hv'] at HV HLK
        have HVE := Lib.hid hv'
        clear hv'
        have HD := Lib.hid (inquestref05_digit.calls x (dg x) wr (digit_dg x hxb.1 h2))
        obtain ⟨A1, c1, hvs⟩ := J.slice HV.out
        subst hvs
        clear HNO
        go_wp2_with fail
        refine HD.out.mono ?_
        rintro e w1 ⟨rfl, hd1⟩
        have HB1 := Lib.hid (HB.out.trans (hd1.below.mono HBS.out))
        have HV1 := Lib.hid (J.below HV.out hd1.below)
        have HBS1 := Lib.hid (Nat.le_trans HBS.out hd1.below.size)
        clear hd1 hx HD
        go_wp2_with (at_builtin; refine J_append (w0 := w) (B := B) (xs := v') (J.keep HV1.out (fun k hk => Below.heap_alloc _ _ k hk)) (HB1.out.alloc HBS1.out _) ?_ [dg x] (Nat.zero_lt_succ _) _ 1 1 rfl (news_one _ _ _) HLK.out rfl _ _ rfl rfl rfl ?_)
        · rw [World.size_alloc]; exact Nat.le_succ_of_le HBS1.out
        intro v1 w2 hJ2 hB2
        have HR2 := Lib.hid (show J w2 B v1 (b ++ (l.take (k + 1)).map dg) from by rw [HTK.out _ rfl, ← HVE.out]; exact hJ2)
        have HB2 := Lib.hid hB2
        have HA2 := Lib.hid (HAL.out _ rfl h2)
        clear hJ2 hB2 HV1 HB1 HTK HAL HVE HV HB HE HLK
        go_wp2_with fail
        go_roundw
        case rel => exact ⟨k + 1, hlt, by go_num, HR2, HB2, HA2⟩
        case measure =>
          simp [intOf]
          omega
      · have h2' : 2 < x := by omega
        have HN := Lib.hid (HNO.out x rfl h2)
        clear HTK HAL HNO h2
        go_wp2_with fail
        go_ret2
        rw [HN.out]
        exact ⟨_, rfl, fun h => (by cases h), ⟨_, _, _, rfl⟩, HB.out⟩
    · obtain rfl : k = l.length := by omega
      rw [List.take_length] at HV HE
      have HF : Hid (rowF l = (l.map dg ++ [10], decide (l.length ≤ 16384))) := Lib.hid (by unfold rowF; rw [if_pos HE.out])
      have hlk : (b ++ l.map dg).length + 1 ≤ 140737488355328 := by rw [List.length_append, List.length_map]; omega
      have HLK := Lib.hid hlk
      clear HE hlk
      obtain ⟨v', hv'⟩ : ∃ v', v' = b ++ l.map dg := ⟨_, rfl⟩
      rw [← hv'] at HV HLK
      have HVE := Lib.hid hv'
      clear hv'
      obtain ⟨A1, c1, hvs⟩ := J.slice HV.out
      subst hvs
      go_wp2_with (at_builtin; refine J_append (w0 := w) (B := B) (xs := v') (J.keep HV.out (fun k hk => Below.heap_alloc _ _ k hk)) (HB.out.alloc HBS.out _) ?_ [10] (Nat.zero_lt_succ _) _ 1 1 rfl (news_one _ _ _) HLK.out rfl _ _ rfl rfl rfl ?_)
      · rw [World.size_alloc]; exact Nat.le_succ_of_le HBS.out
      intro v1 w2 hJ2 hB2
      have HJ2 := Lib.hid hJ2
      have HB2 := Lib.hid hB2
      clear hJ2 hB2
      go_wp2_with fail
      go_ret2
      rw [HF.out]
      refine ⟨_, by simp; omega, fun _ => ?_, J.slice HJ2.out |>.elim fun A h => h.elim fun c h => ⟨A, c, _, h⟩, HB2.out⟩
      rw [← List.append_assoc, ← HVE.out]
      exact HJ2.out
/-- The digits of a number. -/
def decS (n : Nat) : ByteArray := ⟨(Lib.decDigits n).toArray⟩
theorem decS_size (n : Nat) : (decS n).size = (Lib.decDigits n).length := rfl
theorem dec_len_le (n : Nat) (h : n < 4294967296) : (Lib.decDigits n).length ≤ 21 := by
  have := Lib.itoa_length_le (n : Int) (by omega) (by omega)
  rw [itoa_nat] at this
  exact this
theorem cut_digit : ∀ d, d < 10 → ((⟨#[48, 49, 50, 51, 52, 53, 54, 55, 56, 57]⟩ : ByteArray).extract d (d + 1)) = ⟨#[UInt8.ofNat (48 + d)]⟩ := by decide +kernel
theorem digits_ev : ∀ (n : Nat), n < 4294967296 → ∃ K, ∀ k, K ≤ k → inquestref01_digits.f k (n : Int) = some (decS n) := by
  intro n
  induction n using Nat.strongRecOn with
  | _ n ih =>
    intro hn
    have h1 : Int.tmod (n : Int) 10 = ((n % 10 : Nat) : Int) := by rw [Int.tmod_eq_emod_of_nonneg (by omega)]; omega
    have h2 : (((n % 10 : Nat) : Int) + 1) % 4294967296 = ((n % 10 + 1 : Nat) : Int) := by omega
    have h3 := cut_digit (n % 10) (by omega)
    by_cases h : n < 10
    · refine ⟨1, fun k hk => ?_⟩
      obtain ⟨k, rfl⟩ : ∃ m, k = m + 1 := ⟨k - 1, by omega⟩
      simp only [inquestref01_digits.f]
      rw [h1, h2, if_pos (by omega), if_pos (by omega), if_pos (by omega), if_pos (by omega), Int.toNat_natCast, Int.toNat_natCast, h3]
      unfold decS
      rw [dec_small h, show n % 10 = n by omega]
    · obtain ⟨K, hK⟩ := ih (n / 10) (by omega) (by omega)
      refine ⟨K + 1, fun k hk => ?_⟩
      obtain ⟨k, rfl⟩ : ∃ m, k = m + 1 := ⟨k - 1, by omega⟩
      simp only [inquestref01_digits.f]
      have h4 : (Int.tdiv (n : Int) 10) % 4294967296 = ((n / 10 : Nat) : Int) := by rw [Int.tdiv_eq_ediv_of_nonneg (by omega)]; omega
      have hs := dec_len_le (n / 10) (by omega)
      rw [h1, h2, if_pos (by omega), if_pos (by omega), if_pos (by omega), if_neg (by omega), Int.toNat_natCast, Int.toNat_natCast, h3, h4, hK k (by omega), Option.bind_some, if_pos (by rw [decS_size]; show _ + 1 ≤ _; omega)]
      congr 1
      apply bytes_ext
      unfold decS
      rw [dec_great h]
      simp
def rwriteF (b : List Int) (n : Nat) : List Int := b ++ toI (Lib.itoa (n : Int)) ++ [10]
theorem strOf_app (b : List Int) (n : Nat) : strOfNums b ++ decS n ++ ⟨#[10]⟩ = strOfNums (rwriteF b n) := by
  apply bytes_ext
  have h1 : (strOfNums (toI (Lib.itoa (n : Int)))).data.toList = Lib.itoa (n : Int) := str_toI _
  rw [strOfNums_data] at h1
  unfold rwriteF
  rw [strOfNums_data, List.map_append, List.map_append, h1, itoa_nat]
  simp [decS, strOfNums_data]
end Go.Proofs.YtfajplhkbpobiaaDoor.Z

namespace Go.Proofs.YtfajplhkbpobiaaDoor.Z
set_option linter.unusedVariables false
set_option linter.unusedSimpArgs false
open Go.RowKit Go.Proofs.YtfajplhkbpobiaaDoorW.PrintWords
theorem conv_ten (W : World) : (convert 22 9 (.slice (some ⟨W.heap.size, 0, none⟩) 1 1)).run Tryd.prog (W.alloc (.cells #[.int .u8 10] 5)) = .ok (.string ⟨#[10]⟩) (W.alloc (.cells #[.int .u8 10] 5)) := by
  have h := Kd.C_string (P := Tryd.prog) (w := W.alloc (.cells #[.int .u8 10] 5)) (A := some ⟨W.heap.size, 0, none⟩) (n := 1) (c := 1) (xs := [10]) Tryd.underlying22 Tryd.underlying5 Tryd.underlying9
    (Kd.C_of_reads (d := (0 : Int)) (h1 := fun _ => rfl) ⟨rfl, by decide, fun _ => ⟨_, rfl, fun j hj => news_one W 10 5 j hj⟩⟩)
  rw [h]
  rfl
set_option maxHeartbeats 3200000 in
set_option maxRecDepth 100000 in
theorem rwrite_calls (b : List Int) (n : Nat) (hn : n < 4294967296) (hby : ∀ c ∈ b, 0 ≤ c ∧ c < 256) (hlen : b.length ≤ 1000000000000) (A0 : Option Addr) (c0 : Nat) (ad1 : Addr) (c1 : Nat) (w : World) (hr : Kd.C (Kd.int .u8) w A0 b.length b) (hc : b.length ≤ c0) (h1 : w.cell? ad1 = some (.int .u32 (n : Int))) :
    Calls Tryd.prog 22 #[.slice A0 b.length c0, .slice (some ad1) 1 c1] w fun e w' => ∃ v, e = .returned v ∧ J w' w.heap.size v (rwriteF b n) ∧ Below w.heap.size w w' := by
  have hcv := Kd.C_string (P := Tryd.prog) (c := c0) Tryd.underlying22 Tryd.underlying5 Tryd.underlying9 hr
  obtain ⟨K, hK⟩ := digits_ev n hn
  have HDG := Lib.hid (fun W => inquestref01_digits.calls K (n : Int) (decS n) W (hK K (Nat.le_refl _)))
  have hbs : (strOfNums b).size = b.length := strOfNums_size b
  have hds : (decS n).size ≤ 21 := by rw [decS_size]; exact dec_len_le n hn
  have HAP := Lib.hid (strOf_app b n)
  have HRB : Hid (∀ c ∈ rwriteF b n, 0 ≤ c ∧ c < 256) := Lib.hid (by
    intro c hc
    unfold rwriteF at hc
    rcases List.mem_append.1 hc with hc | hc
    · rcases List.mem_append.1 hc with hc | hc
      · exact hby c hc
      · unfold toI at hc
        obtain ⟨x, _, rfl⟩ := List.mem_map.1 hc
        have := x.toNat_lt
        omega
    · have : c = 10 := by simpa using hc
      omega)
  have HRL : Hid ((rwriteF b n).length ≤ 9223372036854775807) := Lib.hid (by
    have := strOfNums_size (rwriteF b n)
    rw [← strOf_app] at this
    rw [← this, ByteArray.size_append, ByteArray.size_append]
    have h10 : (⟨#[10]⟩ : ByteArray).size = 1 := rfl
    omega)
  have HH1 := Lib.hid h1
  have hm : ∀ W, (convert 9 22 (.string (strOfNums b ++ decS n ++ ⟨#[10]⟩))).run Tryd.prog W = .ok (.slice (some ⟨W.heap.size, 0, none⟩) (rwriteF b n).length (capW (rwriteF b n) W)) (madeW (rwriteF b n) W) := fun W => by rw [strOf_app]; exact made_run _ W
  have hms := made_size (rwriteF b n)
  have h10 := conv_ten
  clear hr hby hK h1
  generalize hs0 : strOfNums b = s0 at *
  generalize hs1 : decS n = s1 at *
  clear hs0 hs1
  go_enter Tryd.func22, Tryd.ntmps22
  go_wp2_with fail
  go_loopw [5, 6] (fun s i wr => (i = .int .i64 0 ∧ s = .string s0 ∧ wr = w) ∨ (i = .int .i64 1 ∧ s = .string (s0 ++ s1) ∧ Hid (Below w.heap.size w wr))) (fun _ i _ => 1 - (intOf i).toNat)
  case atStart => exact .inl ⟨rfl, rfl, rfl⟩
  case round =>
    rcases hrel with ⟨rfl, rfl, rfl⟩ | ⟨rfl, rfl, HB⟩
    · have x1 := HH1.out
      go_wp2_with fail
      refine (HDG.out _).mono ?_
      rintro e w2 ⟨rfl, hd⟩
      have HB2 := Lib.hid hd.below
      clear hd x1
      go_wp2_with fail
      go_roundw
      case rel => exact .inr ⟨by go_num, rfl, HB2⟩
      case measure => decide
    · go_wp2_with fail
      go_ret
      exact ⟨_, rfl, J.of_made HRB.out HRL.out (made_at _ (World.size_alloc _ _).symm) (Nat.le_succ_of_le HB.out.size), below_made (below_alloc HB.out _) _⟩
end Go.Proofs.YtfajplhkbpobiaaDoor.Z
