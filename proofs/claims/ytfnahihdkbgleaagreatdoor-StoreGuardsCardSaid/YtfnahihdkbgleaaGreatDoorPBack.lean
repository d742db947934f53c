/- The plain law of StoreBack. -/
import Derived.Test.YtfnahihdkbgleaaGreatDoorZ5
import Derived.Test.YtfnahihdkbgleaaGreatDoorPFile
namespace Go.Proofs.YtfnahihdkbgleaaGreatDoor.Z
set_option linter.unusedVariables false
open Go.RowKit Go.Proofs.YtfnahihdkbgleaaGreatDoorW.PrintWords Go.Proofs.YtfnahihdkbgleaaGreatDoorW.PrintMore
theorem may_is {l : List S37} (hl : ∀ y ∈ l, ItIn y) (hn : l.length ≤ 1000000000000) : store_May.f l = some (mayB l) := by
  unfold store_May.f
  rw [if_pos]
  exact ⟨hl, hn⟩
theorem put_yes {l : List S37} (hl : ∀ y ∈ l, ItIn y) (h : mayB l = true) : store_Put.f l = some (fileL l, 0) := by
  obtain ⟨_, h2, _, h4⟩ := may_parts h
  unfold store_Put.f
  rw [may_is hl (by omega), h, Option.bind_some, if_pos rfl]
  unfold store_file.f
  rw [if_pos ⟨⟨hl, by omega⟩, by omega⟩]
  rfl
theorem put_no {l : List S37} (hl : ∀ y ∈ l, ItIn y) (hn : l.length ≤ 1000000000000) (h : mayB l = false) : store_Put.f l = some ([], 2) := by
  unfold store_Put.f
  rw [may_is hl hn, h, Option.bind_some, if_neg (by decide)]
theorem get_is {b : List Int} (h : ∀ c ∈ b, 0 ≤ c ∧ c < 256) : store_Get.f b = some (getF b) := by
  unfold store_Get.f
  exact if_pos h
theorem same_loop (l : List S37) (hl : l.length ≤ 1000000000000) : ∀ (d i : Nat), i + d = l.length → Ev (fun k => inquestref37_Same.l0 k l l true (i : Int)) true
  | 0, i, h => by
    obtain rfl : i = l.length := by omega
    refine Ev.step (f := fun _ => some true) (fun k => ?_) (Ev.now _)
    simp only [inquestref37_Same.l0]
    rw [if_pos trivial, if_neg (by omega)]
  | d + 1, i, h => by
    have ih := same_loop l hl d (i + 1) (by omega)
    have e1 : wrap64 ((i : Int) + 1) = ((i + 1 : Nat) : Int) := by unfold wrap64; omega
    refine Ev.step (fun k => ?_) ih
    simp only [inquestref37_Same.l0, e1]
    rw [if_pos trivial, if_pos (by omega), if_pos (by omega), if_pos (by omega), if_pos trivial, if_pos trivial, bytes_same]
    rfl
theorem same_ev (l : List S37) (hl : l.length ≤ 1000000000000) : Ev (fun k => inquestref37_Same.f k l l) true := by
  unfold inquestref37_Same.f
  rw [beq_self_eq_true]
  exact same_loop l hl l.length 0 (by omega)
theorem back_lives (l : List S37) (b : List Int) : Ev (fun k => inquestlaw37_StoreBack.j0 k l b true) true := by
  refine Ev.step (f := fun _ => some true) (fun k => ?_) (Ev.now _)
  simp only [inquestlaw37_StoreBack.j0]
  rw [if_pos trivial]
  rfl
theorem back_j1 (b : List Int) (hb : ∀ c ∈ b, 0 ≤ c ∧ c < 256) : Ev (fun k => inquestlaw37_StoreBack.j1 k b) true := by
  refine Ev.step (f := fun _ => some true) (fun k => ?_) (Ev.now _)
  simp only [inquestlaw37_StoreBack.j1]
  rw [get_is hb, Option.bind_some]
  by_cases h : (getF b).2 = 0
  · rw [if_pos h]
    have hB : getF b = ((getF b).1, 0) := Prod.ext rfl h
    have hp := getF_back b _ hb hB
    rw [put_yes (got_in b _ hb hB) hp.2, Option.bind_some, if_pos rfl]
    simp only
    rw [hp.1, bytes_same, Option.bind_some, if_pos rfl]
    rfl
  · rw [if_neg h, getF_err b h, if_pos (by rfl)]
    rfl
theorem back_step (l : List S37) (b : List Int) (k : Nat) (y : Option Bool) (hP : store_Put.f l = some (fileL l, 0)) (hM : store_May.f l = some true) (hG : store_Get.f (fileL l) = some (l, 0)) (hS : inquestref37_Same.f k l l = some true) (hK : inquestlaw37_StoreBack.j1 k b = y) : inquestlaw37_StoreBack.j0 (k + 1) l b false = y := by
  simp only [inquestlaw37_StoreBack.j0]
  rw [if_neg (by decide), hP, Option.bind_some, hM, Option.bind_some, if_neg (by show ¬ (((0 : Int) == 0) != true) = true; decide), if_pos rfl]
  simp only
  rw [hG, Option.bind_some, if_pos rfl]
  simp only
  rw [hS, Option.bind_some, if_pos rfl]
  exact hK
theorem back_step_no (l : List S37) (b : List Int) (k : Nat) (y : Option Bool) (hP : store_Put.f l = some ([], 2)) (hM : store_May.f l = some false) (hK : inquestlaw37_StoreBack.j1 k b = y) : inquestlaw37_StoreBack.j0 (k + 1) l b false = y := by
  simp only [inquestlaw37_StoreBack.j0]
  rw [if_neg (by decide), hP, Option.bind_some, hM, Option.bind_some, if_neg (by show ¬ (((2 : Int) == 0) != false) = true; decide), if_neg (by show ¬ ((2 : Int) = 0); decide)]
  exact hK
theorem StoreBack_pure (l : List S37) (b : List Int) (hl : ∀ y ∈ l, ItIn y) (hb : ∀ c ∈ b, 0 ≤ c ∧ c < 256) (hn : l.length ≤ 9223372036854775807) : ∃ k, inquestlaw37_StoreBack.f k l b = some true := by
  obtain ⟨g, hg, hq⟩ := great_ev l hn
  refine Ev.rounds (g := fun k => inquestlaw37_StoreBack.f k l b) ?_
  unfold inquestlaw37_StoreBack.f
  refine Ev.bind hg ?_
  cases g
  · have hle := hq rfl
    by_cases h2 : (b.length : Int) > 30000
    · refine Ev.congr (fun k => ?_) (back_lives l b)
      rw [if_neg (by decide), decide_eq_true h2]
    · obtain ⟨K, hK⟩ := back_j1 b hb
      cases hm : mayB l
      · refine Ev.congr (f := fun k => inquestlaw37_StoreBack.j0 k l b false) (fun k => ?_) ⟨K + 1, fun k hk => ?_⟩
        · rw [if_neg (by decide), decide_eq_false h2]
        · obtain ⟨k, rfl⟩ : ∃ j, k = j + 1 := ⟨k - 1, by omega⟩
          exact back_step_no l b k _ (put_no hl (by omega) hm) (by rw [may_is hl (by omega), hm]) (hK k (by omega))
      · obtain ⟨K2, hK2⟩ := same_ev l (by omega)
        refine Ev.congr (f := fun k => inquestlaw37_StoreBack.j0 k l b false) (fun k => ?_) ⟨K + K2 + 1, fun k hk => ?_⟩
        · rw [if_neg (by decide), decide_eq_false h2]
        · obtain ⟨k, rfl⟩ : ∃ j, k = j + 1 := ⟨k - 1, by omega⟩
          exact back_step l b k _ (put_yes hl hm) (by rw [may_is hl (by omega), hm]) (by rw [get_is (file_bytes l (fun x hx => (hl x hx).1.2)), getF_file l hm]) (hK2 k (by omega)) (hK k (by omega))
  · refine Ev.congr (fun k => ?_) (back_lives l b)
    rw [if_pos rfl]
end Go.Proofs.YtfnahihdkbgleaaGreatDoor.Z
