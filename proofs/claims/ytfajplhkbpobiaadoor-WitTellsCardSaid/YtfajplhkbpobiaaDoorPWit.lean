/- Plain laws of WitBack: what is put is got; cut it ends too soon; with more behind it it is refused. -/
import Derived.Test.YtfajplhkbpobiaaDoorPOnce
namespace Go.Proofs.YtfajplhkbpobiaaDoor.Z
set_option linter.unusedVariables false
open Go.RowKit Go.Proofs.YtfajplhkbpobiaaDoorW.PrintWords Go.Proofs.YtfajplhkbpobiaaDoorW.PrintMore
theorem vd_dg {v : Int} (h : 0 ≤ v ∧ v ≤ 2) : vd (dg v) = v ∧ okD (dg v) = true ∧ (0 ≤ dg v ∧ dg v < 256) ∧ dg v ≠ 10 ∧ dg v ≠ 46 := by
  have h3 : v = 0 ∨ v = 1 ∨ v = 2 := by omega
  rcases h3 with rfl | rfl | rfl <;> decide
theorem values_fwd {x : List Int} {m : Int} (h : OkRow x m) : valuesF (x.map dg) m = (x, 0) := by
  unfold valuesF
  rw [if_pos (by rw [List.length_map]; exact h.2), if_pos]
  · rw [List.map_map]
    congr 1
    conv => rhs; rw [← List.map_id x]
    apply List.map_congr_left
    intro v hv
    exact (vd_dg (h.1 v hv)).1
  · rw [List.all_eq_true]
    intro c hc
    obtain ⟨v, hv, rfl⟩ := List.mem_map.1 hc
    exact (vd_dg (h.1 v hv)).2.1
theorem row_no {x : List Int} {m : Int} (h : OkRow x m) : (∀ c ∈ x.map dg, c ≠ 10) ∧ (∀ c ∈ x.map dg, 0 ≤ c ∧ c < 256) ∧ ¬ (strOfNums (x.map dg)).toList = ([46] : List UInt8) := by
  have hb : ∀ c ∈ x.map dg, 0 ≤ c ∧ c < 256 := fun c hc => by
    obtain ⟨v, hv, rfl⟩ := List.mem_map.1 hc
    exact (vd_dg (h.1 v hv)).2.2.1
  refine ⟨fun c hc => ?_, hb, fun h46 => ?_⟩
  · obtain ⟨v, hv, rfl⟩ := List.mem_map.1 hc
    exact (vd_dg (h.1 v hv)).2.2.2.1
  · have h1 := first_back hb 46 h46
    have hm : (46 : Int) ∈ x.map dg := by rw [h1]; exact List.mem_singleton.2 rfl
    obtain ⟨v, hv, he⟩ := List.mem_map.1 hm
    exact (vd_dg (h.1 v hv)).2.2.2.2 he
theorem place_fwd (bad : Int) (h : 0 ≤ bad ∧ bad < 1024) : placeF (98 :: toI (Lib.itoa bad)) = (bad, 0) ∧ (∀ c ∈ (98 :: toI (Lib.itoa bad)), c ≠ 10) := by
  obtain ⟨u, rfl⟩ : ∃ u : Nat, bad = (u : Int) := ⟨bad.toNat, by omega⟩
  constructor
  · unfold placeF
    rw [if_pos (by unfold Lib.hasPrefix Lib.bytesOf; simp)]
    exact numF_itoa _ 1023 u (str_toI _) (by omega)
  · intro c hc
    rcases List.mem_cons.1 hc with rfl | hc
    · decide
    · unfold toI at hc
      obtain ⟨b, hb, rfl⟩ := List.mem_map.1 hc
      have := itoa_mem u b hb
      unfold digitB at this
      simp only [Bool.and_eq_true, decide_eq_true_eq] at this
      omega
theorem line_short {p : List Int} (h : ∀ c ∈ p, c ≠ 10) : lineF p = ([], [], 4) := by
  unfold lineF
  rw [line_none (fun j hj => by
    have : p.getD j 0 = p[j] := by simp [List.getD, hj]
    rw [this]
    exact h _ (List.getElem_mem hj))]
/-- One line is there whole, or not. -/
theorem prefix_line {x0 y l t : List Int} (hno : ∀ c ∈ l, c ≠ 10) (h : x0 ++ y = l ++ 10 :: t) : (∀ c ∈ x0, c ≠ 10) ∨ ∃ x1, x0 = l ++ 10 :: x1 ∧ x1 ++ y = t := by
  by_cases hl : x0.length ≤ l.length
  · left
    have h1 := congrArg (List.take x0.length) h
    rw [List.take_left, List.take_append_of_le_length hl] at h1
    intro c hc
    rw [h1] at hc
    exact hno c (List.mem_of_mem_take hc)
  · right
    have h1 := congrArg (List.take (l.length + 1)) h
    have h2 := congrArg (List.drop (l.length + 1)) h
    rw [List.take_append_of_le_length (by omega), show (l ++ 10 :: t).take (l.length + 1) = l ++ [10] by rw [List.take_append, List.take_of_length_le (by omega), Nat.add_sub_cancel_left]; rfl] at h1
    rw [List.drop_append_of_le_length (by omega), show (l ++ 10 :: t).drop (l.length + 1) = t by rw [List.drop_append, List.drop_eq_nil_of_le (by omega), Nat.add_sub_cancel_left]; rfl] at h2
    exact ⟨x0.drop (l.length + 1), by rw [← List.take_append_drop (l.length + 1) x0]; rw [h1]; simp, h2⟩
theorem ev_short (x0 : List Int) (hl : x0.length ≤ 1048576) (h : ∀ c ∈ x0, c ≠ 10) (a1 a2 n bad : Int) (init : List Int) (fr : List (List Int)) : Ev (fun k => wit_Get.l0 k x0 a1 a2 n 0 bad init fr) (0, [], [], 4) := by
  refine Ev.step (f := fun _ => some (0, [], [], 4)) (fun k => ?_) (Ev.now _)
  simp only [wit_Get.l0]
  rw [line_is hl, line_short h]
  rfl
theorem ev_first (t : List Int) (hl : t.length ≤ 1000000) (a1 a2 : Int) (r : Int × List Int × List (List Int) × Int) (h : Ev (fun k => wit_Get.l0 k t a1 a2 1 0 0 [] []) r) : Ev (fun k => wit_Get.l0 k ([49] ++ 10 :: t) a1 a2 0 0 0 [] []) r := by
  refine Ev.step (fun k => ?_) h
  simp only [wit_Get.l0]
  rw [line_is (by simp; omega), line_cut [49] t (by simp)]
  simp only [Option.bind_some]
  have hf : wit_first.f [49] = some 0 := by decide +kernel
  rw [if_pos trivial, if_pos trivial, hf]
  simp only [Option.bind_some]
  rw [if_pos trivial, w01]
theorem ev_place (bad : Int) (hb : 0 ≤ bad ∧ bad < 1024) (t : List Int) (hl : (98 :: toI (Lib.itoa bad)).length + t.length ≤ 1000000) (a1 a2 : Int) (r : Int × List Int × List (List Int) × Int) (h : Ev (fun k => wit_Get.l0 k t a1 a2 2 0 bad [] []) r) : Ev (fun k => wit_Get.l0 k ((98 :: toI (Lib.itoa bad)) ++ 10 :: t) a1 a2 1 0 0 [] []) r := by
  obtain ⟨h1, h2⟩ := place_fwd bad hb
  refine Ev.step (fun k => ?_) h
  simp only [wit_Get.l0]
  rw [line_is (by simp only [List.length_append, List.length_cons] at hl ⊢; omega), line_cut _ t h2]
  simp only [Option.bind_some]
  rw [if_pos trivial, if_neg (by decide), if_pos trivial, place_is (by simp only [List.length_cons] at hl ⊢; omega), h1]
  simp only [Option.bind_some]
  rw [if_pos trivial, w12]
theorem ev_init (x : List Int) (a1 : Int) (hx : OkRow x a1) (t : List Int) (hl : x.length + t.length ≤ 1000000) (a2 bad : Int) (r : Int × List Int × List (List Int) × Int) (h : Ev (fun k => wit_Get.l0 k t a1 a2 3 0 bad x []) r) : Ev (fun k => wit_Get.l0 k (x.map dg ++ 10 :: t) a1 a2 2 0 bad [] []) r := by
  obtain ⟨h1, h2, h3⟩ := row_no hx
  refine Ev.step (fun k => ?_) h
  simp only [wit_Get.l0]
  rw [line_is (by rw [List.length_append, List.length_map, List.length_cons]; omega), line_cut _ t h1]
  simp only [Option.bind_some]
  rw [if_pos trivial, if_neg (by decide), if_neg (by decide), if_pos trivial, values_is a1 (by rw [List.length_map]; omega) h2, values_fwd hx]
  simp only [Option.bind_some]
  rw [if_pos trivial, w23]
theorem ev_row (x : List Int) (a1 a2 : Int) (hx : OkRow x a2) (t : List Int) (hl : x.length + t.length ≤ 1000000) (bad : Int) (init : List Int) (fr : List (List Int)) (hf : fr.length < 256) (r : Int × List Int × List (List Int) × Int)
    (h : Ev (fun k => wit_Get.l0 k t a1 a2 (3 + ((fr ++ [x]).length : Int)) 0 bad init (fr ++ [x])) r) : Ev (fun k => wit_Get.l0 k (x.map dg ++ 10 :: t) a1 a2 (3 + (fr.length : Int)) 0 bad init fr) r := by
  obtain ⟨h1, h2, h3⟩ := row_no hx
  have hw : wrap64 (3 + (fr.length : Int) + 1) = 3 + ((fr ++ [x]).length : Int) := by rw [List.length_append]; unfold wrap64; simp; omega
  refine Ev.step (fun k => ?_) (ev_j3 t x a1 a2 (3 + (fr.length : Int)) bad init fr (by omega) r (by rw [hw]; exact h))
  simp only [wit_Get.l0]
  rw [line_is (by rw [List.length_append, List.length_map, List.length_cons]; omega), line_cut _ t h1]
  simp only [Option.bind_some]
  rw [if_pos trivial, if_neg (by omega), if_neg (by omega), if_neg (by omega), if_neg h3, values_is a2 (by rw [List.length_map]; omega) h2, values_fwd hx]
  simp only [Option.bind_some]
  rw [if_pos trivial, show ((fr.length : Int) == 256) = false from beq_eq_false_iff_ne.2 (by omega)]
theorem ev_dot (t : List Int) (hl : t.length ≤ 1000000) (a1 a2 bad : Int) (init : List Int) (fr : List (List Int)) (hf0 : fr.length ≠ 0) : Ev (fun k => wit_Get.l0 k ([46] ++ 10 :: t) a1 a2 (3 + (fr.length : Int)) 0 bad init fr) (if 0 < t.length then (0, [], [], 5) else (bad, init, fr, 0)) := by
  have hd : (strOfNums [46]).toList = ([46] : List UInt8) := by decide +kernel
  have hj := ev_j2 (decide ((t.length : Int) > 0)) bad init fr
  have he : (if decide ((t.length : Int) > 0) = true then ((0 : Int), ([] : List Int), ([] : List (List Int)), (5 : Int)) else (bad, init, fr, 0)) = (if 0 < t.length then (0, [], [], 5) else (bad, init, fr, 0)) := by
    by_cases h : 0 < t.length
    · rw [if_pos h, decide_eq_true (by omega : (t.length : Int) > 0), if_pos rfl]
    · rw [if_neg h, decide_eq_false (by omega : ¬ (t.length : Int) > 0), if_neg (by decide)]
  rw [he] at hj
  refine Ev.step (fun k => ?_) hj
  simp only [wit_Get.l0]
  rw [line_is (by simp; omega), line_cut [46] t (by simp)]
  simp only [Option.bind_some]
  rw [if_pos trivial, if_neg (by omega), if_neg (by omega), if_neg (by omega), if_pos hd, if_neg (by omega)]
/-- What stands behind the first lines. -/
def tailL (fr : List (List Int)) (m : List Int) : List Int := fr.flatMap rowB ++ ([46] ++ 10 :: m)
theorem tail_cons (x : List Int) (fr : List (List Int)) (m : List Int) : tailL (x :: fr) m = x.map dg ++ 10 :: tailL fr m := by
  unfold tailL rowB
  simp
theorem ev_tail (a1 a2 bad : Int) (init m : List Int) : ∀ (f1 f0 : List (List Int)), (∀ x ∈ f1, OkRow x a2) → (f0 ++ f1).length ≤ 256 → (f0 ++ f1).length ≠ 0 → (tailL f1 m).length ≤ 1000000 →
    Ev (fun k => wit_Get.l0 k (tailL f1 m) a1 a2 (3 + (f0.length : Int)) 0 bad init f0) (if 0 < m.length then (0, [], [], 5) else (bad, init, f0 ++ f1, 0))
  | [], f0, _, h1, h2, hl => by
    rw [List.append_nil] at h1 h2 ⊢
    have hm : m.length ≤ 1000000 := by unfold tailL at hl; simp at hl; omega
    exact ev_dot m hm a1 a2 bad init f0 h2
  | x :: f1, f0, hf, h1, h2, hl => by
    rw [tail_cons] at hl ⊢
    have ih := ev_tail a1 a2 bad init m f1 (f0 ++ [x]) (fun y hy => hf y (by simp [hy])) (by simpa using h1) (by simp) (by simp at hl; omega)
    rw [List.append_assoc] at ih
    exact ev_row x a1 a2 (hf x (by simp)) _ (by simp at hl; omega) bad init f0 (by simp at h1; omega) _ ih
theorem ev_tail_cut (a1 a2 bad : Int) (init : List Int) : ∀ (f1 f0 : List (List Int)) (x0 y : List Int), (∀ x ∈ f1, OkRow x a2) → (f0 ++ f1).length ≤ 256 → x0.length ≤ 1000000 → x0 ++ y = tailL f1 [] → y ≠ [] →
    Ev (fun k => wit_Get.l0 k x0 a1 a2 (3 + (f0.length : Int)) 0 bad init f0) (0, [], [], 4)
  | [], f0, x0, y, _, h1, hl, h, hy => by
    have hno : ∀ c ∈ ([46] : List Int), c ≠ 10 := by simp
    rcases prefix_line hno (show x0 ++ y = [46] ++ 10 :: [] from h) with h2 | ⟨x1, rfl, h2⟩
    · exact ev_short x0 (by omega) h2 _ _ _ _ _ _
    · exact absurd (List.append_eq_nil_iff.1 h2).2 hy
  | x :: f1, f0, x0, y, hf, h1, hl, h, hy => by
    rw [tail_cons] at h
    rcases prefix_line (row_no (hf x (by simp))).1 h with h2 | ⟨x1, rfl, h2⟩
    · exact ev_short x0 (by omega) h2 _ _ _ _ _ _
    · have ih := ev_tail_cut a1 a2 bad init f1 (f0 ++ [x]) x1 y (fun y hy => hf y (by simp [hy])) (by simpa using h1) (by simp at hl; omega) h2 hy
      exact ev_row x a1 a2 (hf x (by simp)) x1 (by simp at hl; omega) bad init f0 (by simp at h1; omega) _ ih
theorem put_parts (bad : Int) (init : List Int) (fr : List (List Int)) (m : List Int) : putL bad init fr ++ m = [49] ++ 10 :: ((98 :: toI (Lib.itoa bad)) ++ 10 :: (init.map dg ++ 10 :: tailL fr m)) := by
  unfold putL headP tailL rowB
  simp
theorem ev_whole (bad a1 a2 : Int) (init : List Int) (fr : List (List Int)) (m : List Int) (hb : 0 ≤ bad ∧ bad < 1024) (hi : OkRow init a1) (hf : ∀ x ∈ fr, OkRow x a2) (h1 : fr.length ≤ 256) (h2 : fr.length ≠ 0) (hl : (putL bad init fr ++ m).length ≤ 1000000) :
    Ev (fun k => wit_Get.l0 k (putL bad init fr ++ m) a1 a2 0 0 0 [] []) (if 0 < m.length then (0, [], [], 5) else (bad, init, fr, 0)) := by
  rw [put_parts] at hl ⊢
  simp only [List.length_append, List.length_cons, List.length_map, List.length_nil] at hl
  refine ev_first _ (by simp only [List.length_append, List.length_cons, List.length_map]; omega) a1 a2 _ (ev_place bad hb _ (by simp only [List.length_append, List.length_cons, List.length_map]; omega) a1 a2 _ (ev_init init a1 hi _ (by omega) a2 bad _ ?_))
  have := ev_tail a1 a2 bad init m fr [] hf h1 h2 (by omega)
  exact this
theorem ev_cut (bad a1 a2 : Int) (init : List Int) (fr : List (List Int)) (hb : 0 ≤ bad ∧ bad < 1024) (hi : OkRow init a1) (hf : ∀ x ∈ fr, OkRow x a2) (h1 : fr.length ≤ 256) (x0 y : List Int) (hl : x0.length ≤ 1000000) (h : x0 ++ y = putL bad init fr) (hy : y ≠ []) :
    Ev (fun k => wit_Get.l0 k x0 a1 a2 0 0 0 [] []) (0, [], [], 4) := by
  rw [show putL bad init fr = putL bad init fr ++ [] from (List.append_nil _).symm, put_parts] at h
  rcases prefix_line (by simp) h with h2 | ⟨x1, rfl, h2⟩
  · exact ev_short x0 (by omega) h2 _ _ _ _ _ _
  · have hl1 : x1.length ≤ 1000000 := by simp at hl; omega
    refine ev_first _ hl1 a1 a2 _ ?_
    rcases prefix_line (place_fwd bad hb).2 h2 with h3 | ⟨x2, rfl, h3⟩
    · exact ev_short x1 (by omega) h3 _ _ _ _ _ _
    · have hl2 : (98 :: toI (Lib.itoa bad)).length + x2.length ≤ 1000000 := by simp at hl1 ⊢; omega
      refine ev_place bad hb _ hl2 a1 a2 _ ?_
      rcases prefix_line (row_no hi).1 h3 with h4 | ⟨x3, rfl, h4⟩
      · exact ev_short x2 (by omega) h4 _ _ _ _ _ _
      · have hl3 : init.length + x3.length ≤ 1000000 := by simp at hl2; omega
        exact ev_init init a1 hi _ hl3 a2 bad _ (ev_tail_cut a1 a2 bad init fr [] x3 y hf (by simpa using h1) (by omega) h4 hy)
theorem ev_get (b : List Int) (a1 a2 : Int) (h1 : 0 ≤ a1 ∧ a1 ≤ 16384) (h2 : 0 ≤ a2 ∧ a2 ≤ 16384) (hl : b.length ≤ 1000000) (r : Int × List Int × List (List Int) × Int) (h : Ev (fun k => wit_Get.l0 k b a1 a2 0 0 0 [] []) r) : Ev (fun k => wit_Get.f k b a1 a2) r := by
  unfold wit_Get.f
  have m1 : ¬ (mn a1 a2) < 0 := by unfold mn; split <;> omega
  have m2 : ¬ (mx a1 a2) > 16384 := by unfold mx; split <;> omega
  refine Ev.congr (f := fun k => wit_Get.j0 k b a1 a2 false 0) (fun k => ?_) (Ev.step (fun k => ?_) h)
  · rw [if_neg m1, decide_eq_false m2]
  · simp only [wit_Get.j0]
    rw [if_neg (by decide), if_neg (by omega)]
/-- What Put takes has rows of values. -/
theorem fit_rows {init : List Int} {fr : List (List Int)} (hin : RowsIn init fr) (h : fitB init fr = true) : OkRow init (init.length : Int) ∧ (∀ x ∈ fr, OkRow x ((fr.headD []).length : Int)) ∧ init.length ≤ 16384 ∧ (fr.headD []).length ≤ 16384 := by
  unfold fitB at h
  rw [Bool.and_eq_true, List.all_eq_true] at h
  have ok : ∀ x ∈ init :: fr, rowOkB x = true → (∀ v ∈ x, 0 ≤ v ∧ v ≤ 2) ∧ x.length ≤ 16384 := by
    intro x hx ho
    unfold rowOkB at ho
    rw [Bool.and_eq_true, decide_eq_true_eq, List.all_eq_true] at ho
    exact ⟨fun v hv => ⟨((hin x hx).2 v hv).1, by simpa using ho.1 v hv⟩, ho.2⟩
  obtain ⟨i1, i2⟩ := ok init (by simp) h.1
  refine ⟨⟨i1, rfl⟩, fun x hx => ?_, i2, ?_⟩
  · have := h.2 x hx
    rw [Bool.and_eq_true, decide_eq_true_eq] at this
    exact ⟨(ok x (by simp [hx]) this.1).1, by rw [this.2]⟩
  · cases fr with
    | nil => exact Nat.zero_le _
    | cons y t =>
      have := h.2 y (by simp)
      rw [Bool.and_eq_true] at this
      exact (ok y (by simp) this.1).2
def sumF (fr : List (List Int)) : Nat := (fr.map List.length).sum
theorem great_loop (fr : List (List Int)) (b : Int) (i0 : List Int) (f0 : List (List Int)) (hl : fr.length ≤ 9223372036854775807) : ∀ (d i : Nat) (s : Int), i + d = fr.length → ∃ g, Ev (fun k => inquestlaw05_great.l0 k s fr (fr.length : Int) (i : Int) b i0 f0) g ∧ (0 ≤ s → s + (sumF (fr.drop i) : Int) ≤ 4611686018427387904 → g = false → s + (sumF (fr.drop i) : Int) ≤ 100000)
  | 0, i, s, h => by
    obtain rfl : i = fr.length := by omega
    have hd : sumF (fr.drop fr.length) = 0 := by rw [List.drop_length]; rfl
    by_cases hg : s > 100000
    · refine ⟨true, Ev.step (f := fun _ => some true) (fun k => ?_) (Ev.now _), fun _ _ h => by cases h⟩
      simp only [inquestlaw05_great.l0]
      rw [if_neg (by omega), if_pos hg]
    · refine ⟨decide ((f0.length : Int) > 2000), Ev.step (f := fun _ => some (decide ((f0.length : Int) > 2000))) (fun k => ?_) (Ev.now _), fun _ _ _ => by rw [hd]; omega⟩
      simp only [inquestlaw05_great.l0]
      rw [if_neg (by omega), if_neg hg]
  | d + 1, i, s, h => by
    have hi : i < fr.length := by omega
    have hx : rd_L1 fr (i : Int) = fr[i] := by simp [rd_L1, List.getD, hi]
    obtain ⟨g, hg, hq⟩ := great_loop fr b i0 f0 hl d (i + 1) (wrap64 (s + ((fr[i]).length : Int))) (by omega)
    have e1 : wrap64 ((i : Int) + 1) = ((i + 1 : Nat) : Int) := by unfold wrap64; omega
    have hs : sumF (fr.drop i) = (fr[i]).length + sumF (fr.drop (i + 1)) := by
      unfold sumF
      rw [List.drop_eq_getElem_cons hi, List.map_cons, List.sum_cons]
    refine ⟨g, Ev.step (fun k => ?_) hg, fun h0 h1 hgf => ?_⟩
    · simp only [inquestlaw05_great.l0]
      rw [if_pos (by omega), if_pos (by omega), if_pos (by omega), hx, e1]
    · have hw : wrap64 (s + ((fr[i]).length : Int)) = s + ((fr[i]).length : Int) := by unfold wrap64; omega
      rw [hw] at hq
      have := hq (by omega) (by omega) hgf
      omega
theorem great_ev (b : Int) (init : List Int) (fr : List (List Int)) (hl : fr.length ≤ 9223372036854775807) : ∃ g, Ev (fun k => inquestlaw05_great.f k b init fr) g ∧ ((init.length : Int) + (sumF fr : Int) ≤ 4611686018427387904 → g = false → init.length + sumF fr ≤ 100000) := by
  obtain ⟨g, hg, hq⟩ := great_loop fr b init fr hl fr.length 0 (init.length : Int) (by omega)
  refine ⟨g, hg, fun h1 h2 => ?_⟩
  have := hq (by omega) (by simpa using h1) h2
  simp at this
  omega
theorem sum_le (fr : List (List Int)) (h : ∀ x ∈ fr, x.length ≤ 16384) : sumF fr ≤ 16384 * fr.length := by
  induction fr with
  | nil => exact Nat.le_refl _
  | cons x t ih =>
    have h1 := h x (by simp)
    have h2 := ih (fun y hy => h y (by simp [hy]))
    have : sumF (x :: t) = x.length + sumF t := rfl
    rw [this, List.length_cons]
    omega
theorem flat_len (fr : List (List Int)) : (fr.flatMap rowB).length = sumF fr + fr.length := by
  induction fr with
  | nil => rfl
  | cons x t ih =>
    have : sumF (x :: t) = x.length + sumF t := rfl
    rw [List.flatMap_cons, List.length_append, ih, this, List.length_cons]
    unfold rowB
    simp
    omega
theorem put_len (n : Nat) (hn : n < 1024) (init : List Int) (fr : List (List Int)) (h : init.length + sumF fr ≤ 100000) (hf : fr.length ≤ 256) : (putL n init fr).length ≤ 200000 ∧ 2 ≤ (putL n init fr).length := by
  have h1 : (toI (Lib.itoa (n : Int))).length ≤ 21 := by
    unfold toI
    rw [List.length_map]
    exact Lib.itoa_length_le (n : Int) (by omega) (by omega)
  have h2 := flat_len (init :: fr)
  have h3 : sumF (init :: fr) = init.length + sumF fr := rfl
  rw [h3, List.length_cons] at h2
  unfold putL headP
  simp only [List.length_append, List.length_cons, List.length_nil, h2]
  omega
theorem put_bytes (n : Nat) (init : List Int) (fr : List (List Int)) (hi : OkRow init (init.length : Int)) (hf : ∀ x ∈ fr, OkRow x ((fr.headD []).length : Int)) : ∀ c ∈ putL n init fr, 0 ≤ c ∧ c < 256 := by
  have hr : ∀ x m, OkRow x m → ∀ c ∈ rowB x, 0 ≤ c ∧ c < 256 := by
    intro x m hx c hc
    unfold rowB at hc
    rcases List.mem_append.1 hc with h | h
    · exact (row_no hx).2.1 c h
    · have : c = 10 := by simpa using h
      omega
  intro c hc
  unfold putL headP at hc
  rcases List.mem_append.1 hc with hc | hc
  · rcases List.mem_append.1 hc with hc | hc
    · rcases List.mem_append.1 hc with hc | hc
      · rcases List.mem_append.1 hc with hc | hc
        · simp at hc; omega
        · unfold toI at hc
          obtain ⟨b, _, rfl⟩ := List.mem_map.1 hc
          have := b.toNat_lt
          omega
      · simp at hc; omega
    · obtain ⟨x, hx, hc2⟩ := List.mem_flatMap.1 hc
      rcases List.mem_cons.1 hx with hx | hx
      · rw [hx] at hc2; exact hr _ _ hi c hc2
      · exact hr _ _ (hf x hx) c hc2
  · simp at hc; omega
theorem tables_ev : ∀ (fr : List (List Int)), Ev (fun k => inquestref00_Tables.l0 k fr fr) true
  | [] => by
    refine Ev.step (f := fun _ => some true) (fun k => ?_) (Ev.now _)
    simp [inquestref00_Tables.l0]
  | x :: t => by
    refine Ev.step (fun k => ?_) (tables_ev t)
    simp only [inquestref00_Tables.l0]
    have h1 : ((x :: t).length : Int) > 0 := by simp only [List.length_cons]; omega
    have h2 : 0 < ((x :: t).length : Int) := h1
    have h3 : 1 ≤ ((x :: t).length : Int) := by omega
    rw [if_pos h1, if_pos h2, if_pos h2, bytes_same, Option.bind_some, if_pos rfl, if_pos h3, if_pos h3]
    rfl
theorem same_ev (b : Int) (init : List Int) (fr : List (List Int)) : Ev (fun k => inquestref03_SameTrace.f k b init fr b init fr) true := by
  obtain ⟨K, hK⟩ := tables_ev fr
  refine ⟨K, fun k hk => ?_⟩
  show inquestref03_SameTrace.f k b init fr b init fr = some true
  unfold inquestref03_SameTrace.f inquestref00_Tables.f
  have h5 : inquestref00_Tables.l0 k fr fr = some true := hK k hk
  rw [if_pos rfl, bytes_same, Option.bind_some, if_pos rfl, if_pos rfl, h5]
  rfl
end Go.Proofs.YtfajplhkbpobiaaDoor.Z
