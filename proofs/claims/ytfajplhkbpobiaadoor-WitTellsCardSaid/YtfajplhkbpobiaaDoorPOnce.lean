/- The plain law of WitOnce: what is got is put as the same bytes. -/
import Derived.Test.YtfajplhkbpobiaaDoorZ5
import Derived.Test.YtfajplhkbpobiaaDoorPNumW
namespace Go.Proofs.YtfajplhkbpobiaaDoor.Z
set_option linter.unusedVariables false
open Go.RowKit Go.Proofs.YtfajplhkbpobiaaDoorW.PrintWords Go.Proofs.YtfajplhkbpobiaaDoorW.PrintMore
/-- A row of values, so many. -/
def OkRow (x : List Int) (m : Int) : Prop := (∀ v ∈ x, 0 ≤ v ∧ v ≤ 2) ∧ (x.length : Int) = m
theorem dg_vd {c : Int} (h : okD c = true) : dg (vd c) = c ∧ 0 ≤ vd c ∧ vd c ≤ 2 := by
  unfold okD at h
  simp only [Bool.or_eq_true, decide_eq_true_eq] at h
  rcases h with (rfl | rfl) | rfl <;> decide
theorem values_back {l vs : List Int} {m e : Int} (he : e = 0) (h : valuesF l m = (vs, e)) : vs.map dg = l ∧ OkRow vs m := by
  subst he
  unfold valuesF at h
  split at h
  · rename_i hm
    split at h
    · rename_i ha
      simp only [Prod.mk.injEq, and_true] at h
      subst h
      rw [List.all_eq_true] at ha
      refine ⟨?_, fun v hv => ?_, by rw [List.length_map]; exact hm⟩
      · rw [List.map_map]
        conv => rhs; rw [← List.map_id l]
        apply List.map_congr_left
        intro c hc
        exact (dg_vd (ha c hc)).1
      · obtain ⟨c, hc, rfl⟩ := List.mem_map.1 hv
        exact (dg_vd (ha c hc)).2
    · simp at h
  · simp at h
theorem place_back {l : List Int} {n e : Int} (he : e = 0) (hb : ∀ c ∈ l, 0 ≤ c ∧ c < 256) (h : placeF l = (n, e)) : (0 ≤ n ∧ n < 1024) ∧ l = 98 :: toI (Lib.itoa n) := by
  subst he
  unfold placeF at h
  split at h
  · rename_i hp
    obtain ⟨u, hu1, hu2, hu3⟩ := numF_back (strOfNums (l.drop 1)) 1023 (by rw [h])
    rw [h] at hu1
    have hn : n = (u : Int) := hu1
    subst hn
    refine ⟨by omega, ?_⟩
    have h2 := toI_str (l.drop 1) (fun c hc => hb c (List.mem_of_mem_drop hc))
    rw [hu3] at h2
    cases l with
    | nil => exact absurd hp (by decide)
    | cons c t =>
      have hc := hb c (by simp)
      have h98 : UInt8.ofNat c.toNat = 98 := by
        unfold Lib.hasPrefix Lib.bytesOf at hp
        simp at hp
        exact hp.symm
      have h3 := congrArg UInt8.toNat h98
      rw [UInt8.toNat_ofNat'] at h3
      have h4 : (98 : UInt8).toNat = 98 := rfl
      have hc98 : c = 98 := by omega
      rw [h2, hc98]
      rfl
  · simp at h
theorem first_back {l : List Int} (hb : ∀ c ∈ l, 0 ≤ c ∧ c < 256) (x : UInt8) (h : (strOfNums l).toList = [x]) : l = [(x.toNat : Int)] := by
  rw [ByteArray.toList_eq] at h
  have h2 := toI_str l hb
  rw [h] at h2
  exact h2.symm
/-- What was read so far. -/
def Inv (p : List Int) (a1 a2 n bad : Int) (init : List Int) (fr : List (List Int)) : Prop :=
  (n = 0 ∧ p = [] ∧ bad = 0 ∧ init = [] ∧ fr = []) ∨ (n = 1 ∧ p = [49, 10] ∧ bad = 0 ∧ init = [] ∧ fr = []) ∨ (n = 2 ∧ p = headP bad ∧ (0 ≤ bad ∧ bad < 1024) ∧ init = [] ∧ fr = []) ∨
  (n = 3 + (fr.length : Int) ∧ p = headP bad ++ (init :: fr).flatMap rowB ∧ (0 ≤ bad ∧ bad < 1024) ∧ OkRow init a1 ∧ (∀ x ∈ fr, OkRow x a2) ∧ fr.length ≤ 256)
def Good (b : List Int) (a1 a2 bad : Int) (init : List Int) (fr : List (List Int)) : Prop :=
  b = putL bad init fr ∧ (0 ≤ bad ∧ bad < 1024) ∧ OkRow init a1 ∧ (∀ x ∈ fr, OkRow x a2) ∧ fr.length ≤ 256 ∧ fr.length ≠ 0
def Done (b : List Int) (a1 a2 : Int) (r : Int × List Int × List (List Int) × Int) : Prop := (r.2.2.2 ≠ 0 → r.1 = 0 ∧ r.2.1 = [] ∧ r.2.2.1 = []) ∧ (r.2.2.2 = 0 → Good b a1 a2 r.1 r.2.1 r.2.2.1)
theorem done_err (b : List Int) (a1 a2 e : Int) (he : e ≠ 0) : Done b a1 a2 (0, [], [], e) := ⟨fun _ => ⟨rfl, rfl, rfl⟩, fun h => absurd h he⟩
theorem ev_j3 (x0 vs : List Int) (a1 a2 n bad : Int) (init : List Int) (fr : List (List Int)) (hf : fr.length ≤ 256) (r : Int × List Int × List (List Int) × Int) (h : Ev (fun k => wit_Get.l0 k x0 a1 a2 (wrap64 (n + 1)) 0 bad init (fr ++ [vs])) r) : Ev (fun k => wit_Get.j3 k x0 a1 a2 n 0 vs false 0 bad init fr) r := by
  refine Ev.step (fun k => ?_) h
  simp only [wit_Get.j3]
  rw [if_neg (by decide), if_pos (by omega), if_pos trivial]
theorem ev_j3_full (x0 vs : List Int) (a1 a2 n bad : Int) (init : List Int) (fr : List (List Int)) (hf : fr.length ≤ 256) : Ev (fun k => wit_Get.j3 k x0 a1 a2 n 0 vs true 0 bad init fr) (0, [], [], 3) := by
  refine Ev.step (f := fun _ => some (0, [], [], 3)) (fun k => ?_) (Ev.now _)
  simp only [wit_Get.j3]
  rw [if_pos trivial, if_pos (by omega), if_neg (by decide)]
theorem ev_j3_err (x0 vs : List Int) (a1 a2 n bad e : Int) (he : e ≠ 0) (init : List Int) (fr : List (List Int)) (hf : fr.length ≤ 256) : Ev (fun k => wit_Get.j3 k x0 a1 a2 n e vs false 0 bad init fr) (0, [], [], e) := by
  refine Ev.step (f := fun _ => some (0, [], [], e)) (fun k => ?_) (Ev.now _)
  simp only [wit_Get.j3]
  rw [if_neg (by decide), if_pos (by omega), if_neg he]
theorem ev_j2 (fl : Bool) (bad : Int) (init : List Int) (fr : List (List Int)) : Ev (fun k => wit_Get.j2 k fl 0 bad init fr) (if fl = true then (0, [], [], 5) else (bad, init, fr, 0)) := by
  refine Ev.step (f := fun _ => some (if fl = true then (0, [], [], 5) else (bad, init, fr, 0))) (fun k => ?_) (Ev.now _)
  simp only [wit_Get.j2]
  cases fl <;> rfl
theorem w01 : wrap64 ((0 : Int) + 1) = 1 := by unfold wrap64; omega
theorem w12 : wrap64 ((1 : Int) + 1) = 2 := by unfold wrap64; omega
theorem w23 : wrap64 ((2 : Int) + 1) = 3 := by unfold wrap64; omega
theorem bytes_same (a : List Int) : inquestref00_Bytes.f a a = some true := by
  unfold inquestref00_Bytes.f
  rw [beq_self_eq_true]
theorem line_is {l : List Int} (h : l.length ≤ 1048576) : lex_Line.f l = some (lineF l) := if_pos (by omega)
theorem place_is {l : List Int} (h : l.length ≤ 1048576) : wit_place.f l = some (placeF l) := if_pos (by omega)
theorem values_is {l : List Int} (m : Int) (h : l.length ≤ 1048576) (hb : ∀ c ∈ l, 0 ≤ c ∧ c < 256) : wit_Values.f l m = some (valuesF l m) := if_pos ⟨by omega, hb⟩
theorem get_loop (a1 a2 : Int) (b : List Int) (hb : ∀ c ∈ b, 0 ≤ c ∧ c < 256) (hl : b.length ≤ 1048576) : ∀ (N : Nat) (x0 p : List Int) (n bad : Int) (init : List Int) (fr : List (List Int)), x0.length ≤ N → p ++ x0 = b → Inv p a1 a2 n bad init fr →
    ∃ r, Ev (fun k => wit_Get.l0 k x0 a1 a2 n 0 bad init fr) r ∧ Done b a1 a2 r := by
  intro N
  induction N with
  | zero =>
    intro x0 p n bad init fr hN hp hI
    obtain rfl : x0 = [] := List.length_eq_zero_iff.1 (by omega)
    refine ⟨(0, [], [], 4), Ev.step (f := fun _ => some (0, [], [], 4)) (fun k => ?_) (Ev.now _), done_err _ _ _ _ (by decide)⟩
    simp only [wit_Get.l0]
    rw [line_is (by simp)]
    rfl
  | succ N ih =>
    intro x0 p n bad init fr hN hp hI
    have hx0 : x0.length ≤ b.length := by rw [← hp, List.length_append]; omega
    have hbx : ∀ c ∈ x0, 0 ≤ c ∧ c < 256 := fun c hc => hb c (by rw [← hp]; exact List.mem_append_right _ hc)
    generalize hL : lineF x0 = q
    obtain ⟨l1, rest, e⟩ := q
    have hline : lex_Line.f x0 = some (l1, rest, e) := by rw [line_is (by omega), hL]
    by_cases he : e = 0
    · obtain ⟨hx, hno⟩ := line_back he hL
      subst he
      have hlr : rest.length ≤ N := by
        have := congrArg List.length hx
        simp at this
        omega
      have hl1 : l1.length ≤ 1048576 := by
        have := congrArg List.length hx
        simp at this
        omega
      have hb1 : ∀ c ∈ l1, 0 ≤ c ∧ c < 256 := fun c hc => hbx c (by rw [hx]; exact List.mem_append_left _ hc)
      have hp2 : (p ++ (l1 ++ [10])) ++ rest = b := by
        rw [← hp, hx]
        simp
      rcases hI with ⟨rfl, rfl, rfl, rfl, rfl⟩ | ⟨rfl, rfl, rfl, rfl, rfl⟩ | ⟨rfl, hpp, hbad, rfl, rfl⟩ | ⟨hn, hpp, hbad, hin, hfr, hfl⟩
      · -- the first line
        have hfirst : ∃ t, wit_first.f l1 = some t ∧ (t = 0 → l1 = [49]) := by
          unfold wit_first.f
          split
          · rename_i h
            exact ⟨_, rfl, fun _ => first_back hb1 49 h⟩
          · split
            · exact ⟨_, rfl, fun h => by cases h⟩
            · split
              · exact ⟨_, rfl, fun h => by cases h⟩
              · exact ⟨_, rfl, fun h => by cases h⟩
        obtain ⟨t, ht, ht0⟩ := hfirst
        by_cases h0 : t = 0
        · have h49 := ht0 h0
          subst h0
          obtain ⟨r, hr, hd⟩ := ih rest _ 1 0 [] [] hlr hp2 (.inr (.inl ⟨rfl, by rw [h49]; rfl, rfl, rfl, rfl⟩))
          refine ⟨r, Ev.step (fun k => ?_) hr, hd⟩
          simp only [wit_Get.l0]
          rw [hline]
          simp only [Option.bind_some]
          rw [if_pos trivial, if_pos trivial, ht]
          simp only [Option.bind_some]
          rw [if_pos trivial, w01]
        · refine ⟨(0, [], [], t), Ev.step (f := fun _ => some (0, [], [], t)) (fun k => ?_) (Ev.now _), done_err _ _ _ _ h0⟩
          simp only [wit_Get.l0]
          rw [hline]
          simp only [Option.bind_some]
          rw [if_pos trivial, if_pos trivial, ht]
          simp only [Option.bind_some]
          rw [if_neg h0]
      · -- the place
        generalize hP : placeF l1 = q
        obtain ⟨z, ez⟩ := q
        have hpl : wit_place.f l1 = some (z, ez) := by rw [place_is hl1, hP]
        by_cases h0 : ez = 0
        · obtain ⟨hz, hl98⟩ := place_back h0 hb1 hP
          subst h0
          obtain ⟨r, hr, hd⟩ := ih rest _ 2 z [] [] hlr hp2 (.inr (.inr (.inl ⟨rfl, by rw [hl98]; simp [headP], hz, rfl, rfl⟩)))
          refine ⟨r, Ev.step (fun k => ?_) hr, hd⟩
          simp only [wit_Get.l0]
          rw [hline]
          simp only [Option.bind_some]
          rw [if_pos trivial, if_neg (by decide), if_pos trivial, hpl]
          simp only [Option.bind_some]
          rw [if_pos trivial, w12]
        · refine ⟨(0, [], [], ez), Ev.step (f := fun _ => some (0, [], [], ez)) (fun k => ?_) (Ev.now _), done_err _ _ _ _ h0⟩
          simp only [wit_Get.l0]
          rw [hline]
          simp only [Option.bind_some]
          rw [if_pos trivial, if_neg (by decide), if_pos trivial, hpl]
          simp only [Option.bind_some]
          rw [if_neg h0]
      · -- the row of the latches
        generalize hV : valuesF l1 a1 = q
        obtain ⟨vs, ev⟩ := q
        have hvl : wit_Values.f l1 a1 = some (vs, ev) := by rw [values_is a1 hl1 hb1, hV]
        by_cases h0 : ev = 0
        · obtain ⟨hvs, hok⟩ := values_back h0 hV
          subst h0
          obtain ⟨r, hr, hd⟩ := ih rest _ 3 bad vs [] hlr hp2 (.inr (.inr (.inr ⟨rfl, by rw [hpp, ← hvs]; simp [rowB], hbad, hok, by simp, by simp⟩)))
          refine ⟨r, Ev.step (fun k => ?_) hr, hd⟩
          simp only [wit_Get.l0]
          rw [hline]
          simp only [Option.bind_some]
          rw [if_pos trivial, if_neg (by decide), if_neg (by decide), if_pos trivial, hvl]
          simp only [Option.bind_some]
          rw [if_pos trivial, w23]
        · refine ⟨(0, [], [], ev), Ev.step (f := fun _ => some (0, [], [], ev)) (fun k => ?_) (Ev.now _), done_err _ _ _ _ h0⟩
          simp only [wit_Get.l0]
          rw [hline]
          simp only [Option.bind_some]
          rw [if_pos trivial, if_neg (by decide), if_neg (by decide), if_pos trivial, hvl]
          simp only [Option.bind_some]
          rw [if_neg h0]
      · -- a row of inputs, or the end
        have hw : wrap64 (n + 1) = n + 1 := by unfold wrap64; omega
        by_cases hdot : (strOfNums l1).toList = ([46] : List UInt8)
        · have hl46 := first_back hb1 46 hdot
          by_cases hf0 : fr.length = 0
          · refine ⟨_, Ev.step (fun k => ?_) (ev_j2 true bad init fr), done_err _ _ _ _ (by decide)⟩
            simp only [wit_Get.l0]
            rw [hline]
            simp only [Option.bind_some]
            rw [if_pos trivial, if_neg (by omega), if_neg (by omega), if_neg (by omega), if_pos hdot, if_pos (by omega)]
          · refine ⟨_, Ev.step (fun k => ?_) (ev_j2 (decide ((rest.length : Int) > 0)) bad init fr), ?_⟩
            · simp only [wit_Get.l0]
              rw [hline]
              simp only [Option.bind_some]
              rw [if_pos trivial, if_neg (by omega), if_neg (by omega), if_neg (by omega), if_pos hdot, if_neg (by omega)]
            · by_cases hr0 : (rest.length : Int) > 0
              · rw [decide_eq_true hr0, if_pos rfl]
                exact done_err _ _ _ _ (by decide)
              · rw [decide_eq_false hr0, if_neg (by decide)]
                have hrn : rest = [] := List.length_eq_zero_iff.1 (by omega)
                refine ⟨fun h => absurd rfl h, fun _ => ⟨?_, hbad, hin, hfr, hfl, hf0⟩⟩
                rw [← hp2, hrn, hl46, hpp]
                unfold putL
                simp
        · generalize hV : valuesF l1 a2 = q
          obtain ⟨vs, ev⟩ := q
          have hvl : wit_Values.f l1 a2 = some (vs, ev) := by rw [values_is a2 hl1 hb1, hV]
          have hstep : ∀ r, (ev = 0 → Ev (fun k => wit_Get.j3 k rest a1 a2 n ev vs ((fr.length : Int) == 256) 0 bad init fr) r) → (ev ≠ 0 → Ev (fun k => wit_Get.j3 k rest a1 a2 n ev vs false 0 bad init fr) r) → Ev (fun k => wit_Get.l0 k x0 a1 a2 n 0 bad init fr) r := by
            intro r h1 h2
            by_cases h0 : ev = 0
            · refine Ev.step (fun k => ?_) (h1 h0)
              simp only [wit_Get.l0]
              rw [hline]
              simp only [Option.bind_some]
              rw [if_pos trivial, if_neg (by omega), if_neg (by omega), if_neg (by omega), if_neg hdot, hvl]
              simp only [Option.bind_some]
              rw [if_pos h0]
            · refine Ev.step (fun k => ?_) (h2 h0)
              simp only [wit_Get.l0]
              rw [hline]
              simp only [Option.bind_some]
              rw [if_pos trivial, if_neg (by omega), if_neg (by omega), if_neg (by omega), if_neg hdot, hvl]
              simp only [Option.bind_some]
              rw [if_neg h0]
          by_cases h0 : ev = 0
          · obtain ⟨hvs, hok⟩ := values_back h0 hV
            subst h0
            by_cases h256 : fr.length = 256
            · refine ⟨_, hstep (0, [], [], 3) (fun _ => ?_) (fun h => absurd rfl h), done_err _ _ _ _ (by decide)⟩
              rw [show ((fr.length : Int) == 256) = true from beq_iff_eq.2 (by omega)]
              exact ev_j3_full rest vs a1 a2 n bad init fr hfl
            · obtain ⟨r, hr, hd⟩ := ih rest _ (n + 1) bad init (fr ++ [vs]) hlr hp2 (.inr (.inr (.inr ⟨by rw [hn]; simp; omega, by rw [hpp, ← hvs]; simp [rowB], hbad, hin, fun x hx => by
                rcases List.mem_append.1 hx with h | h
                · exact hfr x h
                · rw [List.mem_singleton.1 h]; exact hok, by simp; omega⟩)))
              refine ⟨r, hstep r (fun _ => ?_) (fun h => absurd rfl h), hd⟩
              rw [show ((fr.length : Int) == 256) = false from beq_eq_false_iff_ne.2 (by omega)]
              refine ev_j3 rest vs a1 a2 n bad init fr hfl r ?_
              rw [hw]
              exact hr
          · exact ⟨_, hstep (0, [], [], ev) (fun h => absurd h h0) (fun _ => ev_j3_err rest vs a1 a2 n bad ev h0 init fr hfl), done_err _ _ _ _ h0⟩
    · refine ⟨(0, [], [], e), Ev.step (f := fun _ => some (0, [], [], e)) (fun k => ?_) (Ev.now _), done_err _ _ _ _ he⟩
      simp only [wit_Get.l0]
      rw [hline]
      simp only [Option.bind_some]
      rw [if_neg he]
theorem get_ev (a1 a2 : Int) (b : List Int) (hb : ∀ c ∈ b, 0 ≤ c ∧ c < 256) : ∃ r, Ev (fun k => wit_Get.f k b a1 a2) r ∧ Done b a1 a2 r ∧ (r.2.2.2 = 0 → (0 ≤ a1 ∧ a1 ≤ 16384) ∧ 0 ≤ a2 ∧ a2 ≤ 16384) := by
  have hbad : ∀ fl, fl = true → Ev (fun k => wit_Get.j0 k b a1 a2 fl 0) (0, [], [], 2) := by
    intro fl h
    subst h
    refine Ev.step (f := fun _ => some (0, [], [], 2)) (fun k => ?_) (Ev.now _)
    simp only [wit_Get.j0]
    rw [if_pos trivial]
  unfold wit_Get.f
  by_cases h1 : (mn a1 a2) < 0
  · refine ⟨(0, [], [], 2), Ev.congr (fun k => ?_) (hbad true rfl), done_err _ _ _ _ (by decide), fun h => by cases h⟩
    rw [if_pos h1]
  · by_cases h2 : (mx a1 a2) > 16384
    · refine ⟨(0, [], [], 2), Ev.congr (fun k => ?_) (hbad true rfl), done_err _ _ _ _ (by decide), fun h => by cases h⟩
      rw [if_neg h1, decide_eq_true h2]
    · have hr : (0 ≤ a1 ∧ a1 ≤ 16384) ∧ 0 ≤ a2 ∧ a2 ≤ 16384 := by
        unfold mn at h1
        unfold mx at h2
        constructor
        · constructor
          · split at h1 <;> omega
          · split at h2 <;> omega
        · constructor
          · split at h1 <;> omega
          · split at h2 <;> omega
      by_cases h3 : (b.length : Int) > 1048576
      · refine ⟨(0, [], [], 3), Ev.congr (f := fun k => wit_Get.j0 k b a1 a2 false 0) (fun k => ?_) (Ev.step (f := fun _ => some (0, [], [], 3)) (fun k => ?_) (Ev.now _)), done_err _ _ _ _ (by decide), fun h => by cases h⟩
        · rw [if_neg h1, decide_eq_false h2]
        · simp only [wit_Get.j0]
          rw [if_neg (by decide), if_pos h3]
      · obtain ⟨r, hr1, hd⟩ := get_loop a1 a2 b hb (by omega) b.length b [] 0 0 [] [] (Nat.le_refl _) rfl (.inl ⟨rfl, rfl, rfl, rfl, rfl⟩)
        refine ⟨r, Ev.congr (f := fun k => wit_Get.j0 k b a1 a2 false 0) (fun k => ?_) (Ev.step (fun k => ?_) hr1), hd, fun _ => hr⟩
        · rw [if_neg h1, decide_eq_false h2]
        · simp only [wit_Get.j0]
          rw [if_neg (by decide), if_neg h3]
theorem ok_row {x : List Int} {m : Int} (h : OkRow x m) (hm : m ≤ 16384) : rowOkB x = true := by
  unfold rowOkB
  rw [Bool.and_eq_true, decide_eq_true_eq, List.all_eq_true]
  exact ⟨fun v hv => decide_eq_true (h.1 v hv).2, by have := h.2; omega⟩
theorem good_put {b : List Int} {a1 a2 bad : Int} {init : List Int} {fr : List (List Int)} (h : Good b a1 a2 bad init fr) (h1 : a1 ≤ 16384) (h2 : a2 ≤ 16384) : wit_Put.f bad init fr = some (b, 0) := by
  obtain ⟨hb, hbad, hin, hfr, hfl, hf0⟩ := h
  have hrow : RowsIn init fr := by
    intro x hx
    rcases List.mem_cons.1 hx with rfl | hx
    · exact ⟨by have := hin.2; omega, fun c hc => by have := hin.1 c hc; omega⟩
    · exact ⟨by have := (hfr x hx).2; omega, fun c hc => by have := (hfr x hx).1 c hc; omega⟩
  unfold wit_Put.f
  rw [if_pos hrow]
  unfold putF
  rw [if_neg (by omega), if_pos, hb]
  refine fit_of (fun j x hx => ?_)
  cases j with
  | zero =>
    obtain rfl : init = x := by simpa using hx
    exact ⟨ok_row hin h1, fun h => absurd h (by omega)⟩
  | succ j =>
    have hm : x ∈ fr := List.mem_of_getElem? (by simpa using hx)
    refine ⟨ok_row (hfr x hm) h2, fun _ => ?_⟩
    cases fr with
    | nil => cases hm
    | cons y t =>
      have h3 := (hfr x hm).2
      have h4 := (hfr y (by simp)).2
      show x.length = y.length
      omega
theorem WitOnce_pure (b : List Int) (a1 a2 : Int) (hb : ∀ c ∈ b, 0 ≤ c ∧ c < 256) : ∃ k, inquestlaw05_WitOnce.f k b a1 a2 = some true := by
  refine Ev.rounds (g := fun k => inquestlaw05_WitOnce.f k b a1 a2) ?_
  unfold inquestlaw05_WitOnce.f
  by_cases hl : (b.length : Int) > 100000
  · refine Ev.congr (f := fun _ => some true) (fun k => ?_) (Ev.now _)
    rw [if_pos hl]
    rfl
  · obtain ⟨⟨bad, init, fr, e⟩, hr, hd, hrg⟩ := get_ev a1 a2 b hb
    refine Ev.congr (fun k => if_neg hl) (Ev.bind hr ?_)
    by_cases he : e = 0
    · subst he
      have hg := hd.2 rfl
      obtain ⟨⟨_, h1⟩, _, h2⟩ := hrg rfl
      have hput := good_put hg h1 h2
      obtain ⟨hbb, hbad, hin, hfr, hfl, hf0⟩ := hg
      refine Ev.congr (f := fun _ => some true) (fun k => ?_) (Ev.now _)
      simp only
      rw [if_pos trivial, hput]
      simp only [Option.bind_some]
      rw [if_pos trivial]
      have hsame : inquestref00_Bytes.f b b = some true := by unfold inquestref00_Bytes.f; rw [beq_self_eq_true]
      rw [hsame]
      simp only [Option.bind_some]
      have hf1 : ((rd_L1 fr 0).length : Int) = a2 := by
        cases fr with
        | nil => exact absurd rfl hf0
        | cons y t => exact (hfr y (by simp)).2
      have hf0' : fr.length ≠ 0 := hf0
      have hpos : (fr.length : Int) > 0 := by omega
      have hpos2 : 0 < (fr.length : Int) := hpos
      rw [if_pos trivial, if_pos hin.2, if_pos hpos, if_pos hpos2, if_pos hf1]
      rfl
    · obtain ⟨rfl, rfl, rfl⟩ := hd.1 he
      have hs : Ev (fun k => inquestref03_SameTrace.f k 0 [] [] 0 [] []) true := ⟨1, fun k hk => by
        obtain ⟨k, rfl⟩ : ∃ j, k = j + 1 := ⟨k - 1, by omega⟩
        show inquestref03_SameTrace.f (k + 1) 0 [] [] 0 [] [] = some true
        unfold inquestref03_SameTrace.f inquestref00_Tables.f
        rw [if_pos rfl, bytes_same, Option.bind_some, if_pos rfl, if_pos rfl]
        simp [inquestref00_Tables.l0]⟩
      refine Ev.congr (fun k => if_neg he) (Ev.bind hs ?_)
      exact Ev.congr (f := fun _ => some true) (fun k => rfl) (Ev.now _)
end Go.Proofs.YtfajplhkbpobiaaDoor.Z
