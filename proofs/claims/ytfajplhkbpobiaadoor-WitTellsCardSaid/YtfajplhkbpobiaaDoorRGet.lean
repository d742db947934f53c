/- inquestref05.Get, walked: it answers getF. -/
import Derived.Test.YtfajplhkbpobiaaDoorPOnce
import Derived.Test.YtfajplhkbpobiaaDoorZT4
import Derived.Test.YtfajplhkbpobiaaDoorRWrite
import Derived.Test.YtfajplhkbpobiaaDoorRPut
/- Plain laws of WitTells: what a trace of bytes is, as one function; that wit.Get answers it. -/
namespace Go.Proofs.YtfajplhkbpobiaaDoor.Z
set_option linter.unusedVariables false
open Go.RowKit Go.Proofs.YtfajplhkbpobiaaDoorW.PrintWords Go.Proofs.YtfajplhkbpobiaaDoorW.PrintMore
abbrev GotT := Int × List Int × List (List Int) × Int
def framesF (n : Int) (bad : Int) (init : List Int) : Nat → List Int → List (List Int) → GotT
  | 0, _, _ => (0, [], [], 4)
  | k + 1, b, fr =>
    if (lineF b).2.2 ≠ 0 then (0, [], [], (lineF b).2.2)
    else if (lineF b).1 = [46] then (if fr.length = 0 ∨ 0 < (lineF b).2.1.length then (0, [], [], 5) else (bad, init, fr, 0))
    else if (valuesF (lineF b).1 n).2 ≠ 0 then (0, [], [], (valuesF (lineF b).1 n).2)
    else if fr.length = 256 then (0, [], [], 3)
    else framesF n bad init k (lineF b).2.1 (fr ++ [(valuesF (lineF b).1 n).1])
def headF (b : List Int) : Int × List Int × Int :=
  if (lineF b).2.2 ≠ 0 then (0, [], (lineF b).2.2)
  else if (lineF b).1 = [48] ∨ (lineF b).1 = [50] then (0, [], 6)
  else if (lineF b).1 ≠ [49] then (0, [], 5)
  else if (lineF (lineF b).2.1).2.2 ≠ 0 then (0, [], (lineF (lineF b).2.1).2.2)
  else if (placeF (lineF (lineF b).2.1).1).2 ≠ 0 then (0, [], (placeF (lineF (lineF b).2.1).1).2)
  else ((placeF (lineF (lineF b).2.1).1).1, (lineF (lineF b).2.1).2.1, 0)
def getF (b : List Int) (a1 a2 : Int) : GotT :=
  if a1 < 0 ∨ 16384 < a1 ∨ a2 < 0 ∨ 16384 < a2 then (0, [], [], 2)
  else if 1048576 < b.length then (0, [], [], 3)
  else if (headF b).2.2 ≠ 0 then (0, [], [], (headF b).2.2)
  else if (lineF (headF b).2.1).2.2 ≠ 0 then (0, [], [], (lineF (headF b).2.1).2.2)
  else if (valuesF (lineF (headF b).2.1).1 a1).2 ≠ 0 then (0, [], [], (valuesF (lineF (headF b).2.1).1 a1).2)
  else framesF a2 (headF b).1 (valuesF (lineF (headF b).2.1).1 a1).1 ((lineF (headF b).2.1).2.1.length + 1) (lineF (headF b).2.1).2.1 []
theorem line_len {l p r : List Int} {e : Int} (h : lineF l = (p, r, e)) : p.length ≤ l.length ∧ r.length ≤ l.length ∧ (e = 0 → r.length < l.length) := by
  by_cases he : e = 0
  · obtain ⟨hx, _⟩ := line_back he h
    have := congrArg List.length hx
    simp at this
    exact ⟨by omega, by omega, fun _ => by omega⟩
  · unfold lineF at h
    split at h
    · simp only [Prod.mk.injEq] at h
      obtain ⟨rfl, rfl, _⟩ := h
      exact ⟨Nat.zero_le _, Nat.zero_le _, fun h => absurd h he⟩
    · simp only [Prod.mk.injEq] at h
      exact absurd h.2.2.symm he
theorem line_bytes {l p r : List Int} {e : Int} (h : lineF l = (p, r, e)) (hb : ∀ c ∈ l, 0 ≤ c ∧ c < 256) : (∀ c ∈ p, 0 ≤ c ∧ c < 256) ∧ ∀ c ∈ r, 0 ≤ c ∧ c < 256 := by
  unfold lineF at h
  split at h
  · simp only [Prod.mk.injEq] at h
    obtain ⟨rfl, rfl, _⟩ := h
    exact ⟨fun c hc => (by cases hc), fun c hc => (by cases hc)⟩
  · simp only [Prod.mk.injEq] at h
    obtain ⟨rfl, rfl, _⟩ := h
    exact ⟨fun c hc => hb c (List.mem_of_mem_take hc), fun c hc => hb c (List.mem_of_mem_drop hc)⟩
theorem frames_fuel (n bad : Int) (init : List Int) : ∀ (k j : Nat) (x : List Int) (fr : List (List Int)), x.length < k → x.length < j → framesF n bad init k x fr = framesF n bad init j x fr
  | 0, _, _, _, h, _ => absurd h (Nat.not_lt_zero _)
  | _, 0, _, _, _, h => absurd h (Nat.not_lt_zero _)
  | k + 1, j + 1, x, fr, h1, h2 => by
    unfold framesF
    by_cases he : (lineF x).2.2 ≠ 0
    · rw [if_pos he, if_pos he]
    · have hr := (line_len (show lineF x = ((lineF x).1, (lineF x).2.1, (lineF x).2.2) from rfl)).2.2 (by omega)
      rw [frames_fuel n bad init k j (lineF x).2.1 _ (by omega) (by omega)]
/-- A string of one byte. -/
theorem one_str {l : List Int} (hb : ∀ c ∈ l, 0 ≤ c ∧ c < 256) (x : UInt8) : (strOfNums l).toList = [x] ↔ l = [(x.toNat : Int)] := by
  refine ⟨first_back hb x, fun h => ?_⟩
  subst h
  rw [ByteArray.toList_eq, strOfNums_data]
  show [UInt8.ofNat ((x.toNat : Int)).toNat] = [x]
  rw [Int.toNat_natCast, UInt8.ofNat_toNat]
theorem frames_ev (a1 a2 bad : Int) (init : List Int) : ∀ (k : Nat) (x0 : List Int) (fr : List (List Int)), x0.length < k → x0.length ≤ 1048576 → (∀ c ∈ x0, 0 ≤ c ∧ c < 256) → fr.length ≤ 256 →
    Ev (fun k => wit_Get.l0 k x0 a1 a2 (3 + (fr.length : Int)) 0 bad init fr) (framesF a2 bad init k x0 fr)
  | 0, _, _, h, _, _, _ => absurd h (Nat.not_lt_zero _)
  | N + 1, x0, fr, hN, hl, hbx, hfl => by
    unfold framesF
    generalize hL : lineF x0 = q
    obtain ⟨l1, rest, e⟩ := q
    have hline : lex_Line.f x0 = some (l1, rest, e) := by rw [line_is (by omega), hL]
    obtain ⟨hl1, hl2, hl3⟩ := line_len hL
    obtain ⟨hb1, hb2⟩ := line_bytes hL hbx
    simp only
    by_cases he : e = 0
    · subst he
      rw [if_neg (by decide)]
      have hlr : rest.length < x0.length := hl3 rfl
      by_cases hdot : l1 = [46]
      · have hds : (strOfNums l1).toList = ([46] : List UInt8) := (one_str hb1 46).2 hdot
        rw [if_pos hdot]
        by_cases hf0 : fr.length = 0
        · rw [if_pos (.inl hf0)]
          refine Ev.step (fun k => ?_) (ev_j2 true bad init fr)
          simp only [wit_Get.l0]
          rw [hline]
          simp only [Option.bind_some]
          rw [if_pos trivial, if_neg (by omega), if_neg (by omega), if_neg (by omega), if_pos hds, if_pos (by omega)]
        · have hx : (if fr.length = 0 ∨ 0 < rest.length then ((0 : Int), ([] : List Int), ([] : List (List Int)), (5 : Int)) else (bad, init, fr, 0)) = (if decide ((rest.length : Int) > 0) = true then ((0 : Int), ([] : List Int), ([] : List (List Int)), (5 : Int)) else (bad, init, fr, 0)) := by
            by_cases h : 0 < rest.length
            · rw [if_pos (.inr h), decide_eq_true (by omega : (rest.length : Int) > 0), if_pos rfl]
            · rw [if_neg (by omega), decide_eq_false (by omega : ¬ (rest.length : Int) > 0), if_neg (by decide)]
          rw [hx]
          refine Ev.step (fun k => ?_) (ev_j2 (decide ((rest.length : Int) > 0)) bad init fr)
          simp only [wit_Get.l0]
          rw [hline]
          simp only [Option.bind_some]
          rw [if_pos trivial, if_neg (by omega), if_neg (by omega), if_neg (by omega), if_pos hds, if_neg (by omega)]
      · have hds : ¬ (strOfNums l1).toList = ([46] : List UInt8) := fun h => hdot ((one_str hb1 46).1 h)
        rw [if_neg hdot]
        generalize hV : valuesF l1 a2 = q
        obtain ⟨vs, ev⟩ := q
        have hvl : wit_Values.f l1 a2 = some (vs, ev) := by rw [values_is a2 (by omega) hb1, hV]
        simp only
        by_cases h0 : ev = 0
        · subst h0
          rw [if_neg (by decide)]
          by_cases h256 : fr.length = 256
          · rw [if_pos h256]
            refine Ev.step (fun k => ?_) (ev_j3_full rest vs a1 a2 (3 + (fr.length : Int)) bad init fr hfl)
            simp only [wit_Get.l0]
            rw [hline]
            simp only [Option.bind_some]
            rw [if_pos trivial, if_neg (by omega), if_neg (by omega), if_neg (by omega), if_neg hds, hvl]
            simp only [Option.bind_some]
            rw [if_pos trivial, show ((fr.length : Int) == 256) = true from beq_iff_eq.2 (by omega)]
          · rw [if_neg h256]
            have ih := frames_ev a1 a2 bad init N rest (fr ++ [vs]) (by omega) (by omega) hb2 (by simp; omega)
            refine Ev.step (fun k => ?_) (ev_j3 rest vs a1 a2 (3 + (fr.length : Int)) bad init fr hfl _ (by
              rw [show wrap64 (3 + (fr.length : Int) + 1) = 3 + ((fr ++ [vs]).length : Int) by simp; unfold wrap64; omega]
              exact ih))
            simp only [wit_Get.l0]
            rw [hline]
            simp only [Option.bind_some]
            rw [if_pos trivial, if_neg (by omega), if_neg (by omega), if_neg (by omega), if_neg hds, hvl]
            simp only [Option.bind_some]
            rw [if_pos trivial, show ((fr.length : Int) == 256) = false from beq_eq_false_iff_ne.2 (by omega)]
        · rw [if_pos h0]
          refine Ev.step (fun k => ?_) (ev_j3_err rest vs a1 a2 (3 + (fr.length : Int)) bad ev h0 init fr hfl)
          simp only [wit_Get.l0]
          rw [hline]
          simp only [Option.bind_some]
          rw [if_pos trivial, if_neg (by omega), if_neg (by omega), if_neg (by omega), if_neg hds, hvl]
          simp only [Option.bind_some]
          rw [if_neg h0]
    · rw [if_pos he]
      refine Ev.step (f := fun _ => some (0, [], [], e)) (fun k => ?_) (Ev.now _)
      simp only [wit_Get.l0]
      rw [hline]
      simp only [Option.bind_some]
      rw [if_neg he]
theorem first_is {l1 : List Int} (hb1 : ∀ c ∈ l1, 0 ≤ c ∧ c < 256) : wit_first.f l1 = some (if l1 = [48] ∨ l1 = [50] then 6 else if l1 ≠ [49] then 5 else 0) := by
  unfold wit_first.f
  have e49 : (strOfNums l1).toList = ([49] : List UInt8) ↔ l1 = [49] := one_str hb1 49
  have e48 : (strOfNums l1).toList = ([48] : List UInt8) ↔ l1 = [48] := one_str hb1 48
  have e50 : (strOfNums l1).toList = ([50] : List UInt8) ↔ l1 = [50] := one_str hb1 50
  simp only [e49, e48, e50]
  by_cases h49 : l1 = [49]
  · subst h49
    rfl
  · rw [if_neg h49]
    by_cases h48 : l1 = [48]
    · subst h48; rfl
    · rw [if_neg h48]
      by_cases h50 : l1 = [50]
      · subst h50; rfl
      · rw [if_neg h50, if_neg (by simp [h48, h50]), if_pos h49]
/-- The first two lines. -/
theorem head_ev (a1 a2 : Int) (b : List Int) (hb : ∀ c ∈ b, 0 ≤ c ∧ c < 256) (hl : b.length ≤ 1048576) (z : Int) (rest2 : List Int) (eh : Int) (hq : headF b = (z, rest2, eh)) :
    (eh ≠ 0 → Ev (fun k => wit_Get.l0 k b a1 a2 0 0 0 [] []) (0, [], [], eh)) ∧ (eh = 0 → (∀ c ∈ rest2, 0 ≤ c ∧ c < 256) ∧ rest2.length ≤ b.length ∧ ∀ r, Ev (fun k => wit_Get.l0 k rest2 a1 a2 2 0 z [] []) r → Ev (fun k => wit_Get.l0 k b a1 a2 0 0 0 [] []) r) := by
  unfold headF at hq
  generalize hL : lineF b = q at hq
  obtain ⟨l1, rest, e⟩ := q
  have hline : lex_Line.f b = some (l1, rest, e) := by rw [line_is (by omega), hL]
  obtain ⟨hl1, hl2, hl3⟩ := line_len hL
  obtain ⟨hb1, hb2⟩ := line_bytes hL hb
  simp only at hq
  by_cases he : e = 0
  · subst he
    have hfirst := first_is hb1
    rw [if_neg (by decide)] at hq
    by_cases h6 : l1 = [48] ∨ l1 = [50]
    · rw [if_pos h6] at hfirst hq
      simp only [Prod.mk.injEq] at hq
      obtain ⟨rfl, rfl, rfl⟩ := hq
      refine ⟨fun _ => Ev.step (f := fun _ => some (0, [], [], 6)) (fun k => ?_) (Ev.now _), fun h => by cases h⟩
      simp only [wit_Get.l0]
      rw [hline]
      simp only [Option.bind_some]
      rw [if_pos trivial, if_pos trivial, hfirst]
      simp only [Option.bind_some]
      rw [if_neg (by decide)]
    · rw [if_neg h6] at hfirst hq
      by_cases h49 : l1 ≠ [49]
      · rw [if_pos h49] at hfirst hq
        simp only [Prod.mk.injEq] at hq
        obtain ⟨rfl, rfl, rfl⟩ := hq
        refine ⟨fun _ => Ev.step (f := fun _ => some (0, [], [], 5)) (fun k => ?_) (Ev.now _), fun h => by cases h⟩
        simp only [wit_Get.l0]
        rw [hline]
        simp only [Option.bind_some]
        rw [if_pos trivial, if_pos trivial, hfirst]
        simp only [Option.bind_some]
        rw [if_neg (by decide)]
      · rw [if_neg h49] at hfirst hq
        have step1 : ∀ r, Ev (fun k => wit_Get.l0 k rest a1 a2 1 0 0 [] []) r → Ev (fun k => wit_Get.l0 k b a1 a2 0 0 0 [] []) r := fun r h => by
          refine Ev.step (fun k => ?_) h
          simp only [wit_Get.l0]
          rw [hline]
          simp only [Option.bind_some]
          rw [if_pos trivial, if_pos trivial, hfirst]
          simp only [Option.bind_some]
          rw [if_pos trivial, w01]
        generalize hL2 : lineF rest = q at hq
        obtain ⟨l2, rest3, e2⟩ := q
        have hline2 : lex_Line.f rest = some (l2, rest3, e2) := by rw [line_is (by omega), hL2]
        obtain ⟨hm1, hm2, hm3⟩ := line_len hL2
        obtain ⟨hc1, hc2⟩ := line_bytes hL2 hb2
        simp only at hq
        by_cases he2 : e2 = 0
        · subst he2
          rw [if_neg (by decide)] at hq
          generalize hP : placeF l2 = q at hq
          obtain ⟨z', ez⟩ := q
          have hpl : wit_place.f l2 = some (z', ez) := by rw [place_is (by omega), hP]
          simp only at hq
          by_cases h0 : ez = 0
          · subst h0
            rw [if_neg (by decide)] at hq
            simp only [Prod.mk.injEq] at hq
            obtain ⟨rfl, rfl, rfl⟩ := hq
            refine ⟨fun h => absurd rfl h, fun _ => ⟨hc2, by omega, fun r h => step1 r (Ev.step (fun k => ?_) h)⟩⟩
            simp only [wit_Get.l0]
            rw [hline2]
            simp only [Option.bind_some]
            rw [if_pos trivial, if_neg (by decide), if_pos trivial, hpl]
            simp only [Option.bind_some]
            rw [if_pos trivial, w12]
          · rw [if_pos h0] at hq
            simp only [Prod.mk.injEq] at hq
            obtain ⟨rfl, rfl, rfl⟩ := hq
            refine ⟨fun _ => step1 _ (Ev.step (f := fun _ => some (0, [], [], ez)) (fun k => ?_) (Ev.now _)), fun h => absurd h h0⟩
            simp only [wit_Get.l0]
            rw [hline2]
            simp only [Option.bind_some]
            rw [if_pos trivial, if_neg (by decide), if_pos trivial, hpl]
            simp only [Option.bind_some]
            rw [if_neg h0]
        · rw [if_pos he2] at hq
          simp only [Prod.mk.injEq] at hq
          obtain ⟨rfl, rfl, rfl⟩ := hq
          refine ⟨fun _ => step1 _ (Ev.step (f := fun _ => some (0, [], [], e2)) (fun k => ?_) (Ev.now _)), fun h => absurd h he2⟩
          simp only [wit_Get.l0]
          rw [hline2]
          simp only [Option.bind_some]
          rw [if_neg he2]
  · rw [if_pos he] at hq
    simp only [Prod.mk.injEq] at hq
    obtain ⟨rfl, rfl, rfl⟩ := hq
    refine ⟨fun _ => Ev.step (f := fun _ => some (0, [], [], e)) (fun k => ?_) (Ev.now _), fun h => absurd h he⟩
    simp only [wit_Get.l0]
    rw [hline]
    simp only [Option.bind_some]
    rw [if_neg he]
theorem getF_ev (b : List Int) (a1 a2 : Int) (hb : ∀ c ∈ b, 0 ≤ c ∧ c < 256) : Ev (fun k => wit_Get.f k b a1 a2) (getF b a1 a2) := by
  have hbad : Ev (fun k => wit_Get.j0 k b a1 a2 true 0) (0, [], [], 2) := by
    refine Ev.step (f := fun _ => some (0, [], [], 2)) (fun k => ?_) (Ev.now _)
    simp only [wit_Get.j0]
    rw [if_pos trivial]
  unfold wit_Get.f getF
  by_cases hr : a1 < 0 ∨ 16384 < a1 ∨ a2 < 0 ∨ 16384 < a2
  · rw [if_pos hr]
    by_cases h1 : (mn a1 a2) < 0
    · exact Ev.congr (fun k => by rw [if_pos h1]) hbad
    · refine Ev.congr (f := fun k => wit_Get.j0 k b a1 a2 true 0) (fun k => ?_) hbad
      have h2 : (mx a1 a2) > 16384 := by
        unfold mn at h1
        unfold mx
        split at h1 <;> split <;> omega
      rw [if_neg h1, decide_eq_true h2]
  · rw [if_neg hr]
    have h1 : ¬ (mn a1 a2) < 0 := by unfold mn; split <;> omega
    have h2 : ¬ (mx a1 a2) > 16384 := by unfold mx; split <;> omega
    refine Ev.congr (f := fun k => wit_Get.j0 k b a1 a2 false 0) (fun k => by rw [if_neg h1, decide_eq_false h2]) ?_
    by_cases h3 : 1048576 < b.length
    · rw [if_pos h3]
      refine Ev.step (f := fun _ => some (0, [], [], 3)) (fun k => ?_) (Ev.now _)
      simp only [wit_Get.j0]
      rw [if_neg (by decide), if_pos (by omega)]
    · rw [if_neg h3]
      refine Ev.step (f := fun k => wit_Get.l0 k b a1 a2 0 0 0 [] []) (fun k => ?_) ?_
      · simp only [wit_Get.j0]
        rw [if_neg (by decide), if_neg (by omega)]
      generalize hq : headF b = q
      obtain ⟨z, rest2, eh⟩ := q
      obtain ⟨hbad2, hgood⟩ := head_ev a1 a2 b hb (by omega) z rest2 eh hq
      simp only
      by_cases he : eh = 0
      · subst he
        obtain ⟨hc2, hlr, hst⟩ := hgood rfl
        rw [if_neg (by decide)]
        refine hst _ ?_
        -- the row of the latches
        generalize hL3 : lineF rest2 = q
        obtain ⟨l3, rest3, e3⟩ := q
        have hline3 : lex_Line.f rest2 = some (l3, rest3, e3) := by rw [line_is (by omega), hL3]
        obtain ⟨hn1, hn2, hn3⟩ := line_len hL3
        obtain ⟨hd1, hd2⟩ := line_bytes hL3 hc2
        simp only
        by_cases he3 : e3 = 0
        · subst he3
          rw [if_neg (by decide)]
          generalize hV : valuesF l3 a1 = q
          obtain ⟨vs, ev⟩ := q
          have hvl : wit_Values.f l3 a1 = some (vs, ev) := by rw [values_is a1 (by omega) hd1, hV]
          simp only
          by_cases hv0 : ev = 0
          · subst hv0
            rw [if_neg (by decide)]
            refine Ev.step (f := fun k => wit_Get.l0 k rest3 a1 a2 3 0 z vs []) (fun k => ?_) ?_
            · simp only [wit_Get.l0]
              rw [hline3]
              simp only [Option.bind_some]
              rw [if_pos trivial, if_neg (by decide), if_neg (by decide), if_pos trivial, hvl]
              simp only [Option.bind_some]
              rw [if_pos trivial, w23]
            · exact frames_ev a1 a2 z vs (rest3.length + 1) rest3 [] (by omega) (by omega) hd2 (by simp)
          · rw [if_pos hv0]
            refine Ev.step (f := fun _ => some (0, [], [], ev)) (fun k => ?_) (Ev.now _)
            simp only [wit_Get.l0]
            rw [hline3]
            simp only [Option.bind_some]
            rw [if_pos trivial, if_neg (by decide), if_neg (by decide), if_pos trivial, hvl]
            simp only [Option.bind_some]
            rw [if_neg hv0]
        · rw [if_pos he3]
          refine Ev.step (f := fun _ => some (0, [], [], e3)) (fun k => ?_) (Ev.now _)
          simp only [wit_Get.l0]
          rw [hline3]
          simp only [Option.bind_some]
          rw [if_neg he3]
      · rw [if_pos he]
        exact hbad2 he
end Go.Proofs.YtfajplhkbpobiaaDoor.Z

/- Plain laws of WitTells: the reference's numerals and values are the program's. -/
namespace Go.Proofs.YtfajplhkbpobiaaDoor.Z
set_option linter.unusedVariables false
open Go.RowKit Go.Proofs.YtfajplhkbpobiaaDoorW.PrintWords Go.Proofs.YtfajplhkbpobiaaDoorW.PrintMore
theorem bt_nat (s : ByteArray) (i : Nat) (h : i < s.size) : bt s (i : Int) = ((s.data.toList.drop i).head?.map (fun b => (b.toNat : Int))).getD 0 := by
  unfold bt
  have hi : ((i : Int)).toNat < s.size := by omega
  have hd : i < s.data.toList.length := h
  rw [dif_pos hi, List.head?_drop, List.getElem?_eq_getElem hd]
  rfl
def numT (most n : Nat) (great : Bool) (l : List UInt8) : Int × Int := if l.all digitB = true then (if great = true ∨ most < spell n l then (0, 3) else (((spell n l : Nat) : Int), 0)) else (0, 5)
theorem num_loop (s : ByteArray) (most : Nat) (hm : most < 4294967296) (hs : s.size ≤ 1000000) : ∀ (l : List UInt8) (i n : Nat) (great : Bool), s.data.toList.drop i = l → i + l.length = s.size → n ≤ 1099511627776 → (great = false → n ≤ most) →
    Ev (fun k => inquestref01_Number.l0 k s (most : Int) (n : Int) great (i : Int)) (numT most n great l)
  | [], i, n, great, hd, hi, hn, hg => by
    unfold numT
    have e0 : spell n [] = n := rfl
    have hi' : i = s.size := by simpa using hi
    rw [if_pos (show ([] : List UInt8).all digitB = true from rfl)]
    cases great
    · have := hg rfl
      rw [e0, if_neg (fun h => by rcases h with h | h; cases h; omega)]
      refine Ev.step (f := fun _ => some ((n : Int), 0)) (fun k => ?_) (Ev.now _)
      simp only [inquestref01_Number.l0]
      rw [if_neg (by omega), if_neg (by decide)]
      have : (n : Int) % 4294967296 = (n : Int) := by omega
      rw [this]
    · rw [if_pos (.inl rfl)]
      refine Ev.step (f := fun _ => some (0, 3)) (fun k => ?_) (Ev.now _)
      simp only [inquestref01_Number.l0]
      rw [if_neg (by omega), if_pos trivial]
  | c :: l, i, n, great, hd, hi, hn, hg => by
    have hlt : i < s.size := by simp only [List.length_cons] at hi; omega
    have hb : bt s (i : Int) = (c.toNat : Int) := by
      rw [bt_nat s i hlt, hd]
      rfl
    have hc := c.toNat_lt
    have hd2 : s.data.toList.drop (i + 1) = l := by
      rw [← List.drop_drop, hd]
      rfl
    have hw : wrap64 ((i : Int) + 1) = ((i + 1 : Nat) : Int) := by unfold wrap64; omega
    have hdig : digitB c = (decide (48 ≤ c.toNat) && decide (c.toNat ≤ 57)) := rfl
    by_cases h48 : c.toNat < 48
    · unfold numT
      rw [List.all_cons, hdig, decide_eq_false (by omega), Bool.false_and, Bool.false_and, if_neg (by decide)]
      refine Ev.step (f := fun _ => some (0, 5)) (fun k => ?_) (Ev.now _)
      simp only [inquestref01_Number.l0]
      rw [hb, if_pos (by omega), if_pos (by omega), if_pos (by omega)]
    · by_cases h57 : 57 < c.toNat
      · unfold numT
        rw [List.all_cons, hdig, decide_eq_false (show ¬ c.toNat ≤ 57 by omega), Bool.and_false, Bool.false_and, if_neg (by decide)]
        refine Ev.step (f := fun _ => some (0, 5)) (fun k => ?_) (Ev.now _)
        simp only [inquestref01_Number.l0]
        rw [hb, if_pos (by omega), if_pos (by omega), if_neg (by omega), if_pos (by omega)]
      · have hdt : digitB c = true := by rw [hdig, decide_eq_true (by omega), decide_eq_true (by omega)]; rfl
        have hv : IntKind.u64.wrap (IntKind.u64.wrap (10 * (n : Int)) + (((c.toNat : Int) - 48) % 256)) = ((n * 10 + (c.toNat - 48) : Nat) : Int) := by
          rw [IntKind.wrap_u64, IntKind.wrap_u64]
          omega
        have hmw : IntKind.u64.wrap (most : Int) = (most : Int) := by rw [IntKind.wrap_u64]; omega
        have hmn : mn ((n * 10 + (c.toNat - 48) : Nat) : Int) 1099511627776 = ((min (n * 10 + (c.toNat - 48)) 1099511627776 : Nat) : Int) := by
          unfold mn
          split <;> omega
        have hsp : spell n (c :: l) = spell (n * 10 + (c.toNat - 48)) l := rfl
        have hge := spell_ge l (n * 10 + (c.toNat - 48))
        have hT : ∀ g, numT most n g (c :: l) = numT most (n * 10 + (c.toNat - 48)) g l := fun g => by unfold numT; rw [List.all_cons, hdt, Bool.true_and, hsp]
        rw [hT]
        cases great
        · have hnm := hg rfl
          have ih := num_loop s most hm hs l (i + 1) (min (n * 10 + (c.toNat - 48)) 1099511627776) (decide (((n * 10 + (c.toNat - 48) : Nat) : Int) > (most : Int))) hd2 (by simp only [List.length_cons] at hi; omega) (by omega) (fun h => by
            have := of_decide_eq_false h
            omega)
          have hmin : min (n * 10 + (c.toNat - 48)) 1099511627776 = n * 10 + (c.toNat - 48) := by omega
          have hres : numT most (min (n * 10 + (c.toNat - 48)) 1099511627776) (decide (((n * 10 + (c.toNat - 48) : Nat) : Int) > (most : Int))) l = numT most (n * 10 + (c.toNat - 48)) false l := by
            unfold numT
            rw [hmin]
            by_cases ha : l.all digitB = true
            · rw [if_pos ha, if_pos ha]
              by_cases hgt : most < spell (n * 10 + (c.toNat - 48)) l
              · rw [if_pos (.inr hgt), if_pos (.inr hgt)]
              · rw [if_neg, if_neg (by simp [hgt])]
                rw [decide_eq_true_eq]
                omega
            · rw [if_neg ha, if_neg ha]
          rw [hres] at ih
          refine Ev.step (fun k => ?_) ih
          simp only [inquestref01_Number.l0]
          rw [hb, if_pos (by omega), if_pos (by omega), if_neg (by omega), if_neg (by omega), if_neg (by decide), hv, hmw, hmn, hw]
        · have ih := num_loop s most hm hs l (i + 1) (min (n * 10 + (c.toNat - 48)) 1099511627776) true hd2 (by simp only [List.length_cons] at hi; omega) (by omega) (fun h => by cases h)
          have hres : numT most (min (n * 10 + (c.toNat - 48)) 1099511627776) true l = numT most (n * 10 + (c.toNat - 48)) true l := by
            unfold numT
            rw [if_pos (show (true = true ∨ most < spell (min (n * 10 + (c.toNat - 48)) 1099511627776) l) from .inl rfl), if_pos (show (true = true ∨ most < spell (n * 10 + (c.toNat - 48)) l) from .inl rfl)]
          rw [hres] at ih
          refine Ev.step (fun k => ?_) ih
          simp only [inquestref01_Number.l0]
          rw [hb, if_pos (by omega), if_pos (by omega), if_neg (by omega), if_neg (by omega), if_pos trivial, hv, hmn, hw]
theorem num_ev (s : ByteArray) (most : Nat) (hm : most < 4294967296) (hs : s.size ≤ 1000000) : Ev (fun k => inquestref01_Number.f k s (most : Int)) (numF s (most : Int)) := by
  have hbad : Ev (fun k => inquestref01_Number.j0 k s (most : Int) true) (0, 5) := by
    refine Ev.step (f := fun _ => some (0, 5)) (fun k => ?_) (Ev.now _)
    simp only [inquestref01_Number.j0]
    rw [if_pos trivial]
  have hgo : (s.data.toList ≠ [] ∧ ¬ (1 < s.data.toList.length ∧ s.data.toList.head? = some 48)) → Ev (fun k => inquestref01_Number.j0 k s (most : Int) false) (numF s (most : Int)) := by
    rintro ⟨h1, h2⟩
    have h3 := num_loop s most hm hs s.data.toList 0 0 false (by simp) (by simp) (by omega) (fun _ => by omega)
    have hres : numT most 0 false s.data.toList = numF s (most : Int) := by
      unfold numT numF numeralB
      by_cases ha : s.data.toList.all digitB = true
      · have hn : (decide (s.data.toList ≠ []) && !(decide (1 < s.data.toList.length) && decide (s.data.toList.head? = some 48)) && s.data.toList.all digitB) = true := by
          rw [ha, decide_eq_true h1]
          simp only [Bool.and_true, Bool.true_and, Bool.not_eq_true', Bool.and_eq_false_iff, decide_eq_false_iff_not]
          by_cases hl : 1 < s.data.toList.length
          · exact .inr (fun h => h2 ⟨hl, h⟩)
          · exact .inl hl
        rw [if_pos ha, if_pos hn]
        by_cases hgt : most < spell 0 s.data.toList
        · rw [if_pos (.inr hgt), if_neg (by omega)]
        · rw [if_neg (by simp [hgt]), if_pos (by omega)]
      · have hn : ¬ (decide (s.data.toList ≠ []) && !(decide (1 < s.data.toList.length) && decide (s.data.toList.head? = some 48)) && s.data.toList.all digitB) = true := by
          intro h
          rw [Bool.and_eq_true] at h
          exact ha h.2
        rw [if_neg ha, if_neg hn]
    rw [hres] at h3
    refine Ev.step (fun k => ?_) h3
    simp only [inquestref01_Number.j0]
    rw [if_neg (by decide)]
    rfl
  have htl : s.toList = s.data.toList := ByteArray.toList_eq s
  unfold inquestref01_Number.f
  by_cases h0 : s.data.toList = []
  · refine Ev.congr (f := fun k => inquestref01_Number.j0 k s (most : Int) true) (fun k => by rw [htl, if_pos h0]) ?_
    have : numF s (most : Int) = (0, 5) := by
      unfold numF numeralB
      rw [if_neg]
      simp [h0]
    rw [this]
    exact hbad
  · have hsz : 0 < s.size := by
      have : s.size = s.data.toList.length := rfl
      rw [this]
      exact List.length_pos_iff.2 h0
    have hb0 := bt_nat s 0 hsz
    rw [List.drop_zero] at hb0
    obtain ⟨c, t, hct⟩ : ∃ c t, s.data.toList = c :: t := by
      cases hx : s.data.toList with
      | nil => exact absurd hx h0
      | cons c t => exact ⟨c, t, rfl⟩
    rw [hct] at hb0
    have hb1 : bt s 0 = (c.toNat : Int) := hb0
    by_cases h48 : bt s 0 = 48
    · have hc48 : c = 48 := UInt8.toNat_inj.1 (by have : (48 : UInt8).toNat = 48 := rfl; omega)
      by_cases h1 : s.data.toList = [48]
      · refine Ev.congr (f := fun k => inquestref01_Number.j0 k s (most : Int) false) (fun k => by rw [htl, if_neg h0, if_pos (by omega), if_pos h48, h1]; rfl) (hgo ⟨h0, fun h => ?_⟩)
        rw [h1] at h
        exact absurd h.1 (by decide)
      · refine Ev.congr (f := fun k => inquestref01_Number.j0 k s (most : Int) true) (fun k => by rw [htl, if_neg h0, if_pos (by omega), if_pos h48, show (s.data.toList != [48]) = true from bne_iff_ne.2 h1]) ?_
        have : numF s (most : Int) = (0, 5) := by
          unfold numF numeralB
          rw [if_neg]
          rw [hct, hc48]
          have : t ≠ [] := fun h => h1 (by rw [hct, hc48, h])
          cases t with
          | nil => exact absurd rfl this
          | cons d t => simp
        rw [this]
        exact hbad
    · refine Ev.congr (f := fun k => inquestref01_Number.j0 k s (most : Int) false) (fun k => by rw [htl, if_neg h0, if_pos (by omega), if_neg h48]) (hgo ⟨h0, fun h => ?_⟩)
      rw [hct] at h
      have : c = 48 := by simpa using h.2
      rw [this] at hb1
      exact h48 hb1
/-! Values. -/
theorem rd_nat (l : List Int) (i : Nat) (h : i < l.length) : rd l (i : Int) = l[i] := by simp [rd, List.getD, h]
theorem vals_inner (l : List Int) (x6 : List Int) (hx : x6.length ≤ 1000000) (i : Nat) (hi : i < l.length) (hok : okD l[i] = true) (hl : l.length ≤ 1000000) (r : List Int × Int) (h : Ev (fun k => inquestref05_Values.l0 k l (x6 ++ [vd l[i]]) ((i + 1 : Nat) : Int)) r) : Ev (fun k => inquestref05_Values.l1 k l x6 (i : Int) 0) r := by
  have hrd := rd_nat l i hi
  have hw : wrap64 ((i : Int) + 1) = ((i + 1 : Nat) : Int) := by unfold wrap64; omega
  have d0 : inquestref05_digit.f 0 = some 48 := by decide +kernel
  have d1 : inquestref05_digit.f 1 = some 49 := by decide +kernel
  have d2 : inquestref05_digit.f 2 = some 120 := by decide +kernel
  generalize l[i] = c at *
  unfold okD at hok
  simp only [Bool.or_eq_true, decide_eq_true_eq] at hok
  have fin : ∀ y, Ev (fun k => inquestref05_Values.l0 k l y ((i + 1 : Nat) : Int)) r → Ev (fun k => inquestref05_Values.l1 k l y (i : Int) 3) r := fun y hy => by
    refine Ev.step (fun k => ?_) hy
    simp only [inquestref05_Values.l1]
    rw [if_neg (by decide), hw]
  have one : ∀ (y : List Int) (v : Int) (t : Int), inquestref05_digit.f v = some t → (v = 0 ∨ v = 1 ∨ v = 2) → y.length ≤ 1000100 → ∀ r, (c = t → Ev (fun k => inquestref05_Values.l1 k l (y ++ [v]) (i : Int) (v + 1)) r) → (c ≠ t → Ev (fun k => inquestref05_Values.l1 k l y (i : Int) (v + 1)) r) → Ev (fun k => inquestref05_Values.l1 k l y (i : Int) v) r := by
    intro y v t ht hv hy r h1 h2
    have hv3 : (v + 1) % 256 = v + 1 := by omega
    by_cases hc : c = t
    · refine Ev.step (fun k => ?_) (h1 hc)
      simp only [inquestref05_Values.l1]
      rw [if_pos (by omega), if_pos (by omega), if_pos (by omega), ht, Option.bind_some, hrd, if_pos hc, if_pos (by omega), hv3]
    · refine Ev.step (fun k => ?_) (h2 hc)
      simp only [inquestref05_Values.l1]
      rw [if_pos (by omega), if_pos (by omega), if_pos (by omega), ht, Option.bind_some, hrd, if_neg hc, hv3]
  rcases hok with (rfl | rfl) | rfl
  · have : vd 48 = 0 := rfl
    rw [this] at h
    refine one x6 0 48 d0 (by omega) (by omega) r (fun _ => ?_) (fun h => absurd rfl h)
    refine one _ 1 49 d1 (by omega) (by simp; omega) r (fun h => absurd h (by decide)) (fun _ => ?_)
    exact one _ 2 120 d2 (by omega) (by simp; omega) r (fun h => absurd h (by decide)) (fun _ => fin _ h)
  · have : vd 49 = 1 := rfl
    rw [this] at h
    refine one x6 0 48 d0 (by omega) (by omega) r (fun h => absurd h (by decide)) (fun _ => ?_)
    refine one _ 1 49 d1 (by omega) (by omega) r (fun _ => ?_) (fun h => absurd rfl h)
    exact one _ 2 120 d2 (by omega) (by simp; omega) r (fun h => absurd h (by decide)) (fun _ => fin _ h)
  · have : vd 120 = 2 := rfl
    rw [this] at h
    refine one x6 0 48 d0 (by omega) (by omega) r (fun h => absurd h (by decide)) (fun _ => ?_)
    refine one _ 1 49 d1 (by omega) (by omega) r (fun h => absurd h (by decide)) (fun _ => ?_)
    exact one _ 2 120 d2 (by omega) (by omega) r (fun _ => fin _ h) (fun h => absurd rfl h)
theorem vals_loop (l : List Int) (hl : l.length ≤ 1000000) : ∀ (d i : Nat) (x6 : List Int), i + d = l.length → x6.length = i → Ev (fun k => inquestref05_Values.l0 k l x6 (i : Int)) (if (l.drop i).all okD = true then (x6 ++ (l.drop i).map vd, 0) else ([], 5))
  | 0, i, x6, hi, hx => by
    have hd : l.drop i = [] := List.drop_of_length_le (by omega)
    rw [hd, if_pos (show ([] : List Int).all okD = true from rfl)]
    refine Ev.step (f := fun _ => some (x6 ++ ([] : List Int).map vd, 0)) (fun k => ?_) (Ev.now _)
    simp only [inquestref05_Values.l0]
    rw [if_neg (by omega), List.map_nil, List.append_nil]
  | d + 1, i, x6, hi, hx => by
    have hlt : i < l.length := by omega
    have hrd := rd_nat l i hlt
    rw [List.drop_eq_getElem_cons hlt, List.all_cons]
    have stepj : ∀ fl r, Ev (fun k => inquestref05_Values.j1 k l x6 (i : Int) fl) r → (fl = !okD l[i]) → Ev (fun k => inquestref05_Values.l0 k l x6 (i : Int)) r := by
      intro fl r hj hfl
      refine Ev.step (fun k => ?_) hj
      simp only [inquestref05_Values.l0]
      rw [if_pos (by omega), if_pos (by omega), hrd]
      generalize l[i] = c at *
      unfold okD at hfl
      by_cases h48 : c = 48
      · rw [if_pos h48, hfl, h48]; rfl
      · rw [if_neg h48]
        by_cases h49 : c = 49
        · rw [if_pos h49, hfl, h49]; rfl
        · rw [if_neg h49, hfl, decide_eq_false h48, decide_eq_false h49, Bool.false_or, Bool.false_or]
          by_cases h120 : c = 120
          · rw [h120]; rfl
          · rw [decide_eq_false h120, bne_iff_ne.2 h120]; rfl
    by_cases hok : okD l[i] = true
    · have ih := vals_loop l hl d (i + 1) (x6 ++ [vd l[i]]) (by omega) (by simp; omega)
      rw [hok, Bool.true_and]
      rw [List.append_assoc] at ih
      have h1 := vals_inner l x6 (by omega) i hlt hok hl _ ih
      refine stepj false _ (Ev.step (fun k => ?_) h1) (by rw [hok]; rfl)
      simp only [inquestref05_Values.j1]
      rw [if_neg (by decide)]
    · have hok' : okD l[i] = false := by simpa using hok
      rw [hok', Bool.false_and, if_neg (by decide)]
      refine stepj true _ (Ev.step (f := fun _ => some ([], 5)) (fun k => ?_) (Ev.now _)) (by rw [hok']; rfl)
      simp only [inquestref05_Values.j1]
      rw [if_pos trivial]
theorem vals_ev (l : List Int) (m : Int) (hl : l.length ≤ 1000000) : Ev (fun k => inquestref05_Values.f k l m) (valuesF l m) := by
  unfold inquestref05_Values.f valuesF
  by_cases h : (l.length : Int) = m
  · have h1 := vals_loop l hl l.length 0 [] (by omega) rfl
    rw [List.drop_zero, List.nil_append] at h1
    rw [if_pos h]
    refine Ev.congr (fun k => by rw [if_pos h]; rfl) h1
  · rw [if_neg h]
    exact Ev.congr (f := fun _ => some ([], 5)) (fun k => by rw [if_neg h]) (Ev.now _)
end Go.Proofs.YtfajplhkbpobiaaDoor.Z

/- inquestref05.head, walked. -/
namespace Go.Proofs.YtfajplhkbpobiaaDoor.Z
set_option linter.unusedVariables false
set_option linter.unusedSimpArgs false
open Go.RowKit Go.Proofs.YtfajplhkbpobiaaDoorW.PrintWords
theorem line_C (l p r : List Int) (ee : Int) (hq : lineF l = (p, r, ee)) (hlen : l.length ≤ 1048576) (hby : ∀ c ∈ l, 0 ≤ c ∧ c < 256) (A0 : Option Addr) (c0 : Nat) (w : World) (hr : Kd.C (Kd.int .u8) w A0 l.length l) (hc : l.length ≤ c0) :
    Calls Tryd.prog 27 #[.slice A0 l.length c0] w fun e w' => ∃ A1 c1 A2 c2, e = .returned (.tuple #[.slice A1 p.length c1, .slice A2 r.length c2, .int .i64 ee]) ∧ p.length ≤ c1 ∧ Kd.C (Kd.int .u8) w' A1 p.length p ∧ r.length ≤ c2 ∧ Kd.C (Kd.int .u8) w' A2 r.length r ∧ Below w.heap.size w w' := by
  refine (inquestref01_Line.calls A0 c0 l p r ee w hr hc (by unfold inquestref01_Line.f; rw [if_pos ⟨by omega, hby⟩, hq])).mono ?_
  rintro e w' ⟨v1, v2, rfl, ⟨A1, c1, rfl, h1, hF1⟩, ⟨A2, c2, rfl, h2, hF2⟩, hb⟩
  exact ⟨A1, c1, A2, c2, rfl, h1, Kd.F_now hF1, h2, Kd.F_now hF2, hb⟩
theorem line_F (l p r : List Int) (ee : Int) (hq : lineF l = (p, r, ee)) (hlen : l.length ≤ 1048576) (hby : ∀ c ∈ l, 0 ≤ c ∧ c < 256) (A0 : Option Addr) (c0 : Nat) (w : World) (hr : Kd.C (Kd.int .u8) w A0 l.length l) (hc : l.length ≤ c0) :
    Calls Tryd.prog 27 #[.slice A0 l.length c0] w fun e w' => ∃ A1 c1 A2 c2, e = .returned (.tuple #[.slice A1 p.length c1, .slice A2 r.length c2, .int .i64 ee]) ∧ p.length ≤ c1 ∧ Kd.C (Kd.int .u8) w' A1 p.length p ∧ r.length ≤ c2 ∧ Kd.F (Kd.int .u8) w' (fun k => w.heap.size ≤ k) A2 r.length r ∧ Below w.heap.size w w' := by
  refine (inquestref01_Line.calls A0 c0 l p r ee w hr hc (by unfold inquestref01_Line.f; rw [if_pos ⟨by omega, hby⟩, hq])).mono ?_
  rintro e w' ⟨v1, v2, rfl, ⟨A1, c1, rfl, h1, hF1⟩, ⟨A2, c2, rfl, h2, hF2⟩, hb⟩
  exact ⟨A1, c1, A2, c2, rfl, h1, Kd.F_now hF1, h2, hF2, hb⟩
theorem place_not {l : List Int} (h : l = [] ∨ ∃ c t, l = c :: t ∧ c ≠ 98 ∧ 0 ≤ c ∧ c < 256) : placeF l = (0, 5) := by
  unfold placeF
  rw [if_neg]
  rcases h with rfl | ⟨c, t, rfl, hc, h0, h1⟩
  · decide
  · intro hp
    unfold Lib.hasPrefix Lib.bytesOf at hp
    simp at hp
    have h3 := congrArg UInt8.toNat hp
    rw [UInt8.toNat_ofNat'] at h3
    have h4 : (98 : UInt8).toNat = 98 := rfl
    omega
theorem place_yes (t : List Int) : placeF (98 :: t) = numF (strOfNums t) 1023 := by
  unfold placeF
  rw [if_pos]
  · rfl
  · unfold Lib.hasPrefix Lib.bytesOf
    simp
set_option maxHeartbeats 3200000 in
set_option maxRecDepth 100000 in
theorem head_calls (b : List Int) (hlen : b.length ≤ 1000000) (hby : ∀ c ∈ b, 0 ≤ c ∧ c < 256) (z : Int) (r2 : List Int) (eh : Int) (hq : headF b = (z, r2, eh)) (A0 : Option Addr) (c0 : Nat) (w : World) (hr : Kd.C (Kd.int .u8) w A0 b.length b) (hc : b.length ≤ c0) :
    Calls Tryd.prog 26 #[.slice A0 b.length c0] w fun e w' => ∃ A c, e = .returned (.tuple #[.int .i64 z, .slice A r2.length c, .int .i64 eh]) ∧ r2.length ≤ c ∧ Kd.C (Kd.int .u8) w' A r2.length r2 ∧ Below w.heap.size w w' := by
  unfold headF at hq
  generalize hL : lineF b = q at hq
  obtain ⟨l1, rest, e1⟩ := q
  obtain ⟨hl1, hl2, hl3⟩ := line_len hL
  obtain ⟨hb1, hb2⟩ := line_bytes hL hby
  have HC := Lib.hid (line_C b l1 rest e1 hL (by omega) hby A0 c0 w hr hc)
  have fin : ∀ (ee : Int) (w' : World), Below w.heap.size w w' → z = 0 ∧ r2 = [] ∧ eh = ee → ∃ A c, Ending.returned (.tuple #[.int .i64 0, .slice none 0 0, .int .i64 ee]) = .returned (.tuple #[.int .i64 z, .slice A r2.length c, .int .i64 eh]) ∧ r2.length ≤ c ∧ Kd.C (Kd.int .u8) w' A r2.length r2 ∧ Below w.heap.size w w' := by
    rintro ee w' hb ⟨rfl, rfl, rfl⟩
    exact ⟨none, 0, rfl, Nat.le_refl _, Kd.C_nil _ _, hb⟩
  have FIN := Lib.hid fin
  have HQ := Lib.hid hq
  have HB1 := Lib.hid hb1
  have HB2 := Lib.hid hb2
  have HL3 := Lib.hid hl3
  clear hr hby fin hL hq hb1 hb2 hl3
  go_enter Tryd.func26, Tryd.ntmps26
  go_wp2_with fail
  refine HC.out.mono ?_
  rintro e w2 ⟨A1, c1, A2, c2, rfl, h1, hC1, h2, hC2, hb⟩
  have HBW := Lib.hid hb
  have hcv := Kd.C_string (P := Tryd.prog) (c := c1) Tryd.underlying22 Tryd.underlying5 Tryd.underlying9 hC1
  have HC2 := Lib.hid hC2
  clear hb hC1 hC2 HC
  by_cases he : e1 = 0
  · subst he
    by_cases h48 : l1 = [48]
    · have HQ1 : Hid (z = 0 ∧ r2 = [] ∧ eh = 6) := Lib.hid (by
        have hq := HQ.out
        rw [if_neg (by decide), if_pos (.inl h48)] at hq
        simp only [Prod.mk.injEq] at hq
        exact ⟨hq.1.symm, hq.2.1.symm, hq.2.2.symm⟩)
      have hs1 : ((strOfNums l1).toList == ([48] : List UInt8)) = true := beq_iff_eq.2 ((one_str HB1.out 48).2 h48)
      clear h48
      go_wp2_with fail
      go_ret3
      exact FIN.out _ _ HBW.out HQ1.out
    · by_cases h50 : l1 = [50]
      · have HQ1 : Hid (z = 0 ∧ r2 = [] ∧ eh = 6) := Lib.hid (by
          have hq := HQ.out
          rw [if_neg (by decide), if_pos (.inr h50)] at hq
          simp only [Prod.mk.injEq] at hq
          exact ⟨hq.1.symm, hq.2.1.symm, hq.2.2.symm⟩)
        have hs1 : ((strOfNums l1).toList == ([48] : List UInt8)) = false := beq_eq_false_iff_ne.2 (fun h => h48 ((one_str HB1.out 48).1 h))
        have hs2 : ((strOfNums l1).toList == ([50] : List UInt8)) = true := beq_iff_eq.2 ((one_str HB1.out 50).2 h50)
        clear h48 h50
        go_wp2_with fail
        go_ret3
        exact FIN.out _ _ HBW.out HQ1.out
      · have hs1 : ((strOfNums l1).toList == ([48] : List UInt8)) = false := beq_eq_false_iff_ne.2 (fun h => h48 ((one_str HB1.out 48).1 h))
        have hs2 : ((strOfNums l1).toList == ([50] : List UInt8)) = false := beq_eq_false_iff_ne.2 (fun h => h50 ((one_str HB1.out 50).1 h))
        by_cases h49 : l1 = [49]
        · have hs3 : ((strOfNums l1).toList == ([49] : List UInt8)) = true := beq_iff_eq.2 ((one_str HB1.out 49).2 h49)
          have hq := HQ.out
          rw [if_neg (by decide), if_neg (by simp [h48, h50]), if_neg (fun h => h h49)] at hq
          generalize hL2 : lineF rest = q at hq
          obtain ⟨l2, rest2, e2⟩ := q
          obtain ⟨hm1, hm2, hm3⟩ := line_len hL2
          obtain ⟨hd1, hd2⟩ := line_bytes hL2 HB2.out
          have HCL := Lib.hid (fun W hC => line_C rest l2 rest2 e2 hL2 (by omega) HB2.out A2 c2 W hC h2)
          have HQ2 := Lib.hid hq
          have HD1 := Lib.hid hd1
          clear hq hL2 h48 h50 h49 HQ HL3 hm3 hd1 hd2
          go_wp2_with fail
          refine (HCL.out _ HC2.out).mono ?_
          rintro e w3 ⟨A3, c3, A4, c4, rfl, h3, hC3, h4, hC4, hb3⟩
          have HBW3 := Lib.hid (below_step HBW.out hb3)
          have HC3 := Lib.hid hC3
          have HC4 := Lib.hid hC4
          clear hb3 hC3 hC4 HCL HC2 hcv hs1 hs2 hs3
          by_cases he2 : e2 = 0
          · subst he2
            cases l2 with
            | nil =>
              have HQ1 : Hid (z = 0 ∧ r2 = [] ∧ eh = 5) := Lib.hid (by
                have hq := HQ2.out
                rw [if_neg (by decide), place_not (.inl rfl), if_pos (by decide)] at hq
                simp only [Prod.mk.injEq] at hq
                exact ⟨hq.1.symm, hq.2.1.symm, hq.2.2.symm⟩)
              go_wp2_with fail
              go_ret3
              exact FIN.out _ _ HBW3.out HQ1.out
            | cons ch t =>
              have hch := HD1.out ch (by simp)
              obtain ⟨ad, rfl, hx⟩ := ReadsOf.at_ (Kd.reads_of_C (d := (0 : Int)) HC3.out) 0 (by omega) (by simp only [List.length_cons]; omega)
              have hxe : rdOf (0 : Int) (ch :: t) (0 : Int) = ch := rfl
              rw [hxe, show ad.add (0 : Int).toNat = ad from by cases ad; rfl] at hx
              have hlz : (((ch :: t).length : Int) == 0) = false := beq_eq_false_iff_ne.2 (by simp only [List.length_cons]; omega)
              have hlp : (0 : Int) < ((ch :: t).length : Int) := by simp only [List.length_cons]; omega
              have hlp2 : 0 < (ch :: t).length := by simp only [List.length_cons]; omega
              by_cases h98 : ch = 98
              · have hq := HQ2.out
                rw [if_neg (by decide), h98, place_yes] at hq
                have hts : (strOfNums t).size = t.length := strOfNums_size t
                generalize hN : numF (strOfNums t) 1023 = q at hq
                obtain ⟨n, e3⟩ := q
                have hnr := numF_range (strOfNums t) 1023 (by omega)
                rw [hN] at hnr
                have hrt : rest.length ≤ b.length := hl2
                obtain ⟨kk, hkk⟩ := Ev.rounds (num_ev (strOfNums t) 1023 (by omega) (by rw [hts]; simp only [List.length_cons] at hm1; omega))
                have hN' : numF (strOfNums t) ((1023 : Nat) : Int) = (n, e3) := hN
                rw [hN'] at hkk
                have HNU := Lib.hid (fun W => inquestref01_Number.calls kk (strOfNums t) 1023 n e3 W hkk)
                obtain ⟨i0, hi0, _, hsz0, _⟩ := info_parts info_u8
                obtain ⟨At, hd, hda, hdc⟩ := print_drop_of (P := Tryd.prog) (Value.int .u8) (0 : Int) 22 5 .i64 Tryd.underlying22 hi0 hsz0 (some ad) c3 (ch :: t) 1 (by omega) (by simp only [List.length_cons]; omega) h3
                have hdt : (ch :: t).drop ((1 : Int)).toNat = t := rfl
                rw [hdt, show (1 : Int).toNat = 1 from rfl] at hd hdc
                rw [hdt] at hda
                have hcv2 := Kd.C_string (P := Tryd.prog) (c := c3 - 1) Tryd.underlying22 Tryd.underlying5 Tryd.underlying9 (Kd.C_of_reads (h1 := fun _ => rfl) (hda _ (Kd.reads_of_C (d := (0 : Int)) HC3.out)))
                have h98b : (ch != 98) = false := bne_eq_false_iff_eq.2 h98
                have HQ3 := Lib.hid hq
                have hwr : IntKind.i64.wrap n = n := by rw [IntKind.wrap_i64]; omega
                generalize (ch :: t) = l2 at *
                clear hq hN hN' hkk hts hda hi0 hsz0 hdt
                go_wp2_with fail
                refine (HNU.out _).mono ?_
                rintro e w4 ⟨rfl, hd4⟩
                have HBW4 := Lib.hid (HBW3.out.trans (hd4.mono HBW3.out.size))
                have HC44 := Lib.hid (Kd.C_below HC4.out hd4)
                clear hd4
                by_cases he3 : e3 = 0
                · subst he3
                  have hq := HQ3.out
                  rw [if_neg (by decide)] at hq
                  simp only [Prod.mk.injEq] at hq
                  obtain ⟨rfl, rfl, rfl⟩ := hq
                  go_wp2_with fail
                  go_ret3
                  exact ⟨_, _, rfl, h4, HC44.out, HBW4.out⟩
                · have HQ1 : Hid (z = 0 ∧ r2 = [] ∧ eh = e3) := Lib.hid (by
                    have hq := HQ3.out
                    rw [if_pos he3] at hq
                    simp only [Prod.mk.injEq] at hq
                    exact ⟨hq.1.symm, hq.2.1.symm, hq.2.2.symm⟩)
                  have heb : (e3 != 0) = true := bne_iff_ne.2 he3
                  clear he3
                  go_wp2_with fail
                  go_ret3
                  exact FIN.out _ _ HBW4.out HQ1.out
              · have HQ1 : Hid (z = 0 ∧ r2 = [] ∧ eh = 5) := Lib.hid (by
                  have hq := HQ2.out
                  rw [if_neg (by decide), place_not (.inr ⟨ch, t, rfl, h98, hch⟩), if_pos (by decide)] at hq
                  simp only [Prod.mk.injEq] at hq
                  exact ⟨hq.1.symm, hq.2.1.symm, hq.2.2.symm⟩)
                have h98b : (ch != 98) = true := bne_iff_ne.2 h98
                generalize (ch :: t) = l2 at *
                clear h98
                go_wp2_with fail
                go_ret3
                exact FIN.out _ _ HBW3.out HQ1.out
          · have HQ1 : Hid (z = 0 ∧ r2 = [] ∧ eh = e2) := Lib.hid (by
              have hq := HQ2.out
              rw [if_pos he2] at hq
              simp only [Prod.mk.injEq] at hq
              exact ⟨hq.1.symm, hq.2.1.symm, hq.2.2.symm⟩)
            have heb : (e2 != 0) = true := bne_iff_ne.2 he2
            clear he2
            go_wp2_with fail
            go_ret3
            exact FIN.out _ _ HBW3.out HQ1.out
        · have HQ1 : Hid (z = 0 ∧ r2 = [] ∧ eh = 5) := Lib.hid (by
            have hq := HQ.out
            rw [if_neg (by decide), if_neg (by simp [h48, h50]), if_pos h49] at hq
            simp only [Prod.mk.injEq] at hq
            exact ⟨hq.1.symm, hq.2.1.symm, hq.2.2.symm⟩)
          have hs3 : ((strOfNums l1).toList == ([49] : List UInt8)) = false := beq_eq_false_iff_ne.2 (fun h => h49 ((one_str HB1.out 49).1 h))
          clear h48 h50 h49
          go_wp2_with fail
          go_ret3
          exact FIN.out _ _ HBW.out HQ1.out
  · have HQ1 : Hid (z = 0 ∧ r2 = [] ∧ eh = e1) := Lib.hid (by
      have hq := HQ.out
      rw [if_pos he] at hq
      simp only [Prod.mk.injEq] at hq
      exact ⟨hq.1.symm, hq.2.1.symm, hq.2.2.symm⟩)
    have heb : (e1 != 0) = true := bne_iff_ne.2 he
    clear he
    go_wp2_with fail
    go_ret3
    exact FIN.out _ _ HBW.out HQ1.out
end Go.Proofs.YtfajplhkbpobiaaDoor.Z

namespace Go.Proofs.YtfajplhkbpobiaaDoor.Z
set_option linter.unusedVariables false
set_option linter.unusedSimpArgs false
open Go.RowKit Go.Proofs.YtfajplhkbpobiaaDoorW.PrintWords Go.Proofs.YtfajplhkbpobiaaDoorW.PrintLast
theorem info_rw : (Tryd.prog.info? 22).map (fun i => (i.zero, i.size, i.bytes)) = some (some (.slice none 0 0), (Kd.slice 5 (Kd.int .u8)).sz, 24) := by kernel_rfl
def lenV : Value → Nat
  | .slice _ n _ => n
  | _ => 0
/-- What is answered: a trace that may be read. -/
def GotAt (w : World) (r : GotT) (e : Ending) (w' : World) : Prop :=
  ∃ A1 c1 A2 c2, e = .returned (.tuple #[.agg #[.int .i64 r.1, .slice A1 r.2.1.length c1, .slice A2 r.2.2.1.length c2], .int .i64 r.2.2.2]) ∧ r.2.1.length ≤ c1 ∧ Kd.C (Kd.int .u8) w' A1 r.2.1.length r.2.1 ∧ r.2.2.1.length ≤ c2 ∧ Kd.C (Kd.slice 5 (Kd.int .u8)) w' A2 r.2.2.1.length r.2.2.1 ∧ Below w.heap.size w w'
theorem got_err (w w' : World) (e : Int) (h : Below w.heap.size w w') : GotAt w (0, [], [], e) (.returned (.tuple #[.agg #[.int .i64 0, .slice none 0 0, .slice none 0 0], .int .i64 e])) w' :=
  ⟨none, 0, none, 0, rfl, Nat.le_refl _, Kd.C_nil _ _, Nat.le_refl _, Kd.C_nil _ _, h⟩
theorem vals_C (l : List Int) (m : Int) (vs : List Int) (ev : Int) (hq : valuesF l m = (vs, ev)) (hl : l.length ≤ 1000000) (A0 : Option Addr) (c0 : Nat) (w : World) (hr : Kd.C (Kd.int .u8) w A0 l.length l) (hc : l.length ≤ c0) :
    Calls Tryd.prog 15 #[.slice A0 l.length c0, .int .i64 m] w fun e w' => ∃ v, e = .returned (.tuple #[v, .int .i64 ev]) ∧ Kd.R (Kd.int .u8) 5 w' w.heap.size (fun k => w.heap.size ≤ k) v vs ∧ Below w.heap.size w w' := by
  obtain ⟨k, hk⟩ := Ev.rounds (vals_ev l m hl)
  rw [hq] at hk
  refine (inquestref05_Values.calls k A0 c0 l m vs ev w hr hc hk).mono ?_
  rintro e w' ⟨v, rfl, hR, hb⟩
  refine ⟨v, rfl, ?_, hb⟩
  refine Kd.R_mono (Kd.R_bound hR) (fun k hk => hk.2.1)
/-- The blocks of the answer and of the trace. -/
structure GetS (w W : World) (g6 g10 : Nat) (z : Int) (init : List Int) (fr : List (List Int)) (D1 : Option Addr) (d1 : Nat) (v2 : Value) : Prop where
  b6 : W.heap[g6]? = some (.cells #[.int .i64 0, .slice none 0 0, .slice none 0 0] 25 (0, 0))
  b10 : W.heap[g10]? = some (.cells #[.int .i64 z, .slice D1 init.length d1, v2] 25 (0, 0))
  ne : g6 ≠ g10
  ge6 : w.heap.size ≤ g6
  ge10 : w.heap.size ≤ g10
  hd1 : init.length ≤ d1
  ini : Kd.F (Kd.int .u8) W (fun k => (k ≠ g6 ∧ k ≠ g10) ∧ some k ≠ v2.ownBlock) D1 init.length init
  rows : Kd.R (Kd.slice 5 (Kd.int .u8)) 22 W w.heap.size (fun k => k ≠ g6 ∧ k ≠ g10) v2 fr
  below : Below w.heap.size w W
theorem GetS.step {w W W' : World} {g6 g10 : Nat} {z : Int} {init : List Int} {fr : List (List Int)} {D1 : Option Addr} {d1 : Nat} {v2 : Value} (h : GetS w W g6 g10 z init fr D1 d1 v2) (hb : Below W.heap.size W W') : GetS w W' g6 g10 z init fr D1 d1 v2 :=
  ⟨blk_below h.b6 hb, blk_below h.b10 hb, h.ne, h.ge6, h.ge10, h.hd1, Kd.F_below h.ini hb, Kd.R_below h.rows hb, below_step h.below hb⟩
set_option maxHeartbeats 6400000 in
set_option maxRecDepth 100000 in
theorem rget_bad (b : List Int) (a1 a2 : Int) (h : a1 < 0 ∨ 16384 < a1 ∨ a2 < 0 ∨ 16384 < a2) (A0 : Option Addr) (c0 : Nat) (w : World) :
    Calls Tryd.prog 13 #[.slice A0 b.length c0, .int .i64 a1, .int .i64 a2] w (GotAt w (0, [], [], 2)) := by
  have hu := Tryd.underlying25
  have HB := Lib.hid (below_alloc (Below.refl w.heap.size w) (.cells #[.int .i64 0, .slice none 0 0, .slice none 0 0] 25))
  have HX := Lib.hid (blk_new w (.cells #[.int .i64 0, .slice none 0 0, .slice none 0 0] 25))
  have q0 : (w.alloc (.cells #[.int .i64 0, .slice none 0 0, .slice none 0 0] 25)).cell? ⟨w.heap.size, 0, none⟩ = some (.int .i64 0) := (blk_cell HX.out 0).trans rfl
  have q1 : (w.alloc (.cells #[.int .i64 0, .slice none 0 0, .slice none 0 0] 25)).cell? ⟨w.heap.size, 1, none⟩ = some (.slice none 0 0) := (blk_cell HX.out 1).trans rfl
  have q2 : (w.alloc (.cells #[.int .i64 0, .slice none 0 0, .slice none 0 0] 25)).cell? ⟨w.heap.size, 2, none⟩ = some (.slice none 0 0) := (blk_cell HX.out 2).trans rfl
  by_cases h1 : a1 < 0
  · clear h
    go_enter Tryd.func13, Tryd.ntmps13
    go_wp2_with fail
    refine bodyPost_ret (results_ct rfl _ _ w.heap.size 25 #[.int .i64 0, .slice none 0 0, .slice none 0 0] (0, 0) _ rfl HX.out Tryd.underlying25 rfl (by kernel_rfl)) rfl ?_
    exact got_err w _ 2 HB.out
  · by_cases h2 : 16384 < a1
    · clear h
      go_enter Tryd.func13, Tryd.ntmps13
      go_wp2_with fail
      refine bodyPost_ret (results_ct rfl _ _ w.heap.size 25 #[.int .i64 0, .slice none 0 0, .slice none 0 0] (0, 0) _ rfl HX.out Tryd.underlying25 rfl (by kernel_rfl)) rfl ?_
      exact got_err w _ 2 HB.out
    · by_cases h3 : a2 < 0
      · clear h
        go_enter Tryd.func13, Tryd.ntmps13
        go_wp2_with fail
        refine bodyPost_ret (results_ct rfl _ _ w.heap.size 25 #[.int .i64 0, .slice none 0 0, .slice none 0 0] (0, 0) _ rfl HX.out Tryd.underlying25 rfl (by kernel_rfl)) rfl ?_
        exact got_err w _ 2 HB.out
      · have h4 : 16384 < a2 := by omega
        clear h
        go_enter Tryd.func13, Tryd.ntmps13
        go_wp2_with fail
        refine bodyPost_ret (results_ct rfl _ _ w.heap.size 25 #[.int .i64 0, .slice none 0 0, .slice none 0 0] (0, 0) _ rfl HX.out Tryd.underlying25 rfl (by kernel_rfl)) rfl ?_
        exact got_err w _ 2 HB.out
/-- In the loop. -/
def GetL (w wr : World) (g6 g10 : Nat) (z : Int) (init : List Int) (D1 : Option Addr) (d1 : Nat) (a2 : Int) (res : GotT) (v0 : Value) : Prop :=
  ∃ A c x fr v2, v0 = .slice A (List.length x) c ∧ x.length ≤ c ∧ Kd.F (Kd.int .u8) wr (fun k => (k ≠ g6 ∧ k ≠ g10) ∧ some k ≠ v2.ownBlock) A x.length x ∧ x.length ≤ 1000000 ∧ (∀ y ∈ x, 0 ≤ y ∧ y < 256) ∧ List.length fr ≤ 256 ∧ GetS w wr g6 g10 z init fr D1 d1 v2 ∧ res = framesF a2 z init (x.length + 1) x fr
theorem own_none (k : Nat) : some k ≠ (Value.slice none 0 0).ownBlock := fun h => by cases h
set_option maxHeartbeats 6400000 in
set_option maxRecDepth 100000 in
theorem rget_calls (b : List Int) (a1 a2 : Int) (hlen : b.length ≤ 1000000) (hby : ∀ c ∈ b, 0 ≤ c ∧ c < 256) (A0 : Option Addr) (c0 : Nat) (w : World) (hr : Kd.C (Kd.int .u8) w A0 b.length b) (hc : b.length ≤ c0) :
    Calls Tryd.prog 13 #[.slice A0 b.length c0, .int .i64 a1, .int .i64 a2] w (GotAt w (getF b a1 a2)) := by
  by_cases hra : a1 < 0 ∨ 16384 < a1 ∨ a2 < 0 ∨ 16384 < a2
  · rw [show getF b a1 a2 = (0, [], [], 2) by unfold getF; rw [if_pos hra]]
    exact rget_bad b a1 a2 hra A0 c0 w
  · have hu := Tryd.underlying25
    have HB := Lib.hid (below_alloc (Below.refl w.heap.size w) (.cells #[.int .i64 0, .slice none 0 0, .slice none 0 0] 25))
    have HX := Lib.hid (blk_new w (.cells #[.int .i64 0, .slice none 0 0, .slice none 0 0] 25))
    generalize hq : headF b = q
    obtain ⟨z, x2, eh⟩ := q
    have HC := Lib.hid (head_calls b hlen hby z x2 eh hq A0 c0 (w.alloc (.cells #[.int .i64 0, .slice none 0 0, .slice none 0 0] 25)) (Kd.C_alloc hr _) hc)
    have HGF : Hid (getF b a1 a2 = if eh ≠ 0 then (0, [], [], eh) else if (lineF x2).2.2 ≠ 0 then (0, [], [], (lineF x2).2.2) else if (valuesF (lineF x2).1 a1).2 ≠ 0 then (0, [], [], (valuesF (lineF x2).1 a1).2) else framesF a2 z (valuesF (lineF x2).1 a1).1 ((lineF x2).2.1.length + 1) (lineF x2).2.1 []) := Lib.hid (by
      unfold getF
      rw [if_neg hra, if_neg (by omega), hq])
    have HLB : Hid (eh = 0 → (∀ c ∈ x2, 0 ≤ c ∧ c < 256) ∧ x2.length ≤ b.length) := Lib.hid (fun h0 => by
      obtain ⟨h1, h2, _⟩ := (head_ev a1 a2 b hby (by omega) z x2 eh hq).2 h0
      exact ⟨h1, h2⟩)
    have n1 : ¬ a1 < 0 := by omega
    have n2 : ¬ 16384 < a1 := by omega
    have n3 : ¬ a2 < 0 := by omega
    have n4 : ¬ 16384 < a2 := by omega
    have n5 : ¬ 1048576 < (b.length : Int) := by omega
    clear hra hr hq hby
    go_enter Tryd.func13, Tryd.ntmps13
    go_wp2_with fail
    refine HC.out.mono ?_
    rintro e w2 ⟨A1, c1, rfl, hc1, hC1, hb2⟩
    have HX2 := Lib.hid (blk_below HX.out hb2)
    have HB2 := Lib.hid (below_step HB.out hb2)
    have HC1 := Lib.hid hC1
    clear hb2 hC1 HC
    have q0 : w2.cell? ⟨w.heap.size, 0, none⟩ = some (.int .i64 0) := (blk_cell HX2.out 0).trans rfl
    have q1 : w2.cell? ⟨w.heap.size, 1, none⟩ = some (.slice none 0 0) := (blk_cell HX2.out 1).trans rfl
    have q2 : w2.cell? ⟨w.heap.size, 2, none⟩ = some (.slice none 0 0) := (blk_cell HX2.out 2).trans rfl
    have z0 : w2.frozen? ⟨w.heap.size, 0, none⟩ = false := blk_frozen HX2.out 0
    have z1 : w2.frozen? ⟨w.heap.size, 1, none⟩ = false := blk_frozen HX2.out 1
    have z2 : w2.frozen? ⟨w.heap.size, 2, none⟩ = false := blk_frozen HX2.out 2
    by_cases he : eh = 0
    · subst he
      clear q0 q1 q2 z0 z1 z2
      generalize hL3 : lineF x2 = q at HGF
      obtain ⟨l3, r3, e3⟩ := q
      obtain ⟨hx2b, hx2l⟩ := HLB.out rfl
      obtain ⟨hl1, hl2, hl3⟩ := line_len hL3
      obtain ⟨hd1, hd2⟩ := line_bytes hL3 hx2b
      have HCL := Lib.hid (line_F x2 l3 r3 e3 hL3 (by omega) hx2b A1 c1 (w2.alloc (.cells #[.int .i64 z, .slice none 0 0, .slice none 0 0] 25)) (Kd.C_alloc HC1.out _) hc1)
      have HL3 : Hid (l3.length ≤ 1000000 ∧ r3.length ≤ 1000000) := Lib.hid ⟨by omega, by omega⟩
      have HD2 := Lib.hid hd2
      have H6 := Lib.hid (blk_alloc HX2.out (.cells #[.int .i64 z, .slice none 0 0, .slice none 0 0] 25))
      have H10 := Lib.hid (blk_new w2 (.cells #[.int .i64 z, .slice none 0 0, .slice none 0 0] 25))
      have HB3 := Lib.hid (below_alloc HB2.out (.cells #[.int .i64 z, .slice none 0 0, .slice none 0 0] 25))
      have HG10 : Hid (w.heap.size < w2.heap.size) := Lib.hid (blk_lt HX2.out)
      clear hL3 hx2b hl3 hd1 hd2 HC1 HX2 HB2 HLB HX HB
      go_wp2_with fail
      refine HCL.out.mono ?_
      rintro e w3 ⟨A3, c3, A4, c4, rfl, h3, hC3, h4, hC4, hb3⟩
      have H6 := Lib.hid (blk_below H6.out hb3)
      have H10 := Lib.hid (blk_below H10.out hb3)
      have HB3 := Lib.hid (below_step HB3.out hb3)
      have HC3 := Lib.hid hC3
      have HC4 := Lib.hid hC4
      clear hb3 hC3 hC4 HCL
      by_cases he3 : e3 = 0
      · subst he3
        generalize hV : valuesF l3 a1 = q at HGF
        obtain ⟨vs, ev⟩ := q
        have HCV := Lib.hid (vals_C l3 a1 vs ev hV HL3.out.1 A3 c3 w3 HC3.out h3)
        clear hV
        go_wp2_with fail
        refine HCV.out.mono ?_
        rintro e w4 ⟨v4, rfl, hR4, hb4⟩
        obtain ⟨D1, d1, rfl⟩ := Kd.R_slice hR4
        have H6 := Lib.hid (blk_below H6.out hb4)
        have H10 := Lib.hid (blk_below H10.out hb4)
        have HB4 := Lib.hid (below_step HB3.out hb4)
        have HC4 := Lib.hid (Kd.F_below HC4.out hb4)
        have HR4 := Lib.hid hR4
        have HS3 : Hid (w2.heap.size < w3.heap.size) := Lib.hid (by
          have h1 := blk_lt H10.out
          have h2 := blk_lt (show w3.heap[w2.heap.size]? = some _ from by assumption)
          omega)
        have q0 : w4.cell? ⟨w2.heap.size, 1, none⟩ = some (.slice none 0 0) := (blk_cell H10.out 1).trans rfl
        have z0 : w4.frozen? ⟨w2.heap.size, 1, none⟩ = false := blk_frozen H10.out 1
        clear hR4 hb4 HCV HC3
        have H6s := Lib.hid (blk_far H6.out (p := ⟨w2.heap.size, 1, none⟩) (Nat.ne_of_lt HG10.out) (.slice D1 vs.length d1))
        have H10s := Lib.hid (blk_put H10.out 1 (.slice D1 vs.length d1) rfl)
        have HB4s := Lib.hid (below_set (j := 1) (v := .slice D1 vs.length d1) HB4.out (Nat.le_of_lt HG10.out))
        by_cases hev : ev = 0
        · subst hev
          have HGS : Hid (GetS w (w4.setCell ⟨w2.heap.size, 1, none⟩ (.slice D1 vs.length d1)) w.heap.size w2.heap.size z vs [] D1 d1 (.slice none 0 0)) := Lib.hid {
            b6 := H6s.out
            b10 := H10s.out
            ne := Nat.ne_of_lt HG10.out
            ge6 := Nat.le_refl _
            ge10 := Nat.le_of_lt HG10.out
            hd1 := (Kd.R_reads' HR4.out).2.1
            ini := Kd.F_mono (Kd.R_F (Kd.R_far HR4.out (p := ⟨w2.heap.size, 1, none⟩) (fun k hk => by have := HS3.out; show k ≠ w2.heap.size; omega) _)) (fun k hk => ⟨⟨by have := HS3.out; have := HG10.out; omega, by have := HS3.out; omega⟩, own_none k⟩)
            rows := Kd.R_nil _ _ _ _ _
            below := HB4s.out }
          have HLP : Hid (GetL w (w4.setCell ⟨w2.heap.size, 1, none⟩ (.slice D1 vs.length d1)) w.heap.size w2.heap.size z vs D1 d1 a2 (getF b a1 a2) (.slice A4 r3.length c4)) := Lib.hid ⟨A4, c4, r3, [], .slice none 0 0, rfl, h4, Kd.F_mono (Kd.F_far HC4.out (p := ⟨w2.heap.size, 1, none⟩) (fun k hk => by rw [World.size_alloc] at hk; show k ≠ w2.heap.size; omega) _) (fun k hk => by rw [World.size_alloc] at hk; exact ⟨⟨by have := HG10.out; omega, by omega⟩, own_none k⟩), HL3.out.2, HD2.out, by simp, HGS.out, by rw [HGF.out, if_neg (by decide), if_neg (by decide), if_neg (by decide)]⟩
          generalize hres : getF b a1 a2 = res at *
          clear HGF H6 H10 HB4 HB3 HC4 HR4 H6s H10s HB4s HGS HL3 HD2 hres
          go_wp2_with fail
          go_loopw [0] (fun v0 wr => Hid (GetL w wr w.heap.size w2.heap.size z vs D1 d1 a2 res v0)) (fun v0 _ => lenV v0)
          case atStart => exact HLP
          case round =>
            clear HLP
            obtain ⟨A, c, x, fr, v2, rfl, hxc, hxF, hxl, hxb, hfl, hgs, hres⟩ := hrel.out
            obtain ⟨F2, f2, rfl⟩ := Kd.R_slice hgs.rows
            have HXF := Lib.hid hxF
            have HGS := Lib.hid hgs
            have HRES := Lib.hid hres
            generalize hL : lineF x = q
            obtain ⟨l, r, e⟩ := q
            obtain ⟨hm1, hm2, hm3⟩ := line_len hL
            obtain ⟨hn1, hn2⟩ := line_bytes hL hxb
            have HCL := Lib.hid (line_F x l r e hL (by omega) hxb A c wr (Kd.F_now hxF) hxc)
            have HRS : Hid (res = if e ≠ 0 then (0, [], [], e) else if l = [46] then (if fr.length = 0 ∨ 0 < r.length then (0, [], [], 5) else (z, vs, fr, 0)) else if (valuesF l a2).2 ≠ 0 then (0, [], [], (valuesF l a2).2) else if fr.length = 256 then (0, [], [], 3) else framesF a2 z vs x.length r (fr ++ [(valuesF l a2).1])) := Lib.hid (by
              rw [hres]
              conv => lhs; unfold framesF
              rw [hL])
            have HN1 := Lib.hid hn1
            have HN2 := Lib.hid hn2
            have HML : Hid (l.length ≤ 1000000 ∧ r.length ≤ 1000000 ∧ (e = 0 → r.length < x.length)) := Lib.hid ⟨by omega, by omega, hm3⟩
            clear hrel hxF hgs hres hL hm3 hn1 hn2 hxb HRES
            go_wp2_with fail
            refine HCL.out.mono ?_
            rintro e' w5 ⟨A5, c5, A6, c6, rfl, h5, hC5, h6, hF6, hb5⟩
            have HGS5 := Lib.hid (HGS.out.step hb5)
            have HC5 := Lib.hid hC5
            have HF6 : Hid (Kd.F (Kd.int .u8) w5 (fun k => (k ≠ w.heap.size ∧ k ≠ w2.heap.size) ∧ some k ≠ (Value.slice F2 fr.length f2).ownBlock) A6 r.length r) := Lib.hid (Kd.F_mono hF6 (fun k hk => ⟨⟨by have := blk_lt HGS.out.b6; omega, by have := blk_lt HGS.out.b10; omega⟩, fun h => by
              have := Kd.fresh' (Kd.R_lt HGS.out.rows) k hk
              exact this h⟩))
            clear hb5 hC5 hF6 HCL HGS HXF
            by_cases he : e = 0
            · subst he
              have hcv := Kd.C_string (P := Tryd.prog) (c := c5) Tryd.underlying22 Tryd.underlying5 Tryd.underlying9 HC5.out
              by_cases hdot : l = [46]
              · have hsd : ((strOfNums l).toList == ([46] : List UInt8)) = true := beq_iff_eq.2 ((one_str HN1.out 46).2 hdot)
                have HRD : Hid (res = if fr.length = 0 ∨ 0 < r.length then (0, [], [], 5) else (z, vs, fr, 0)) := Lib.hid (by rw [HRS.out, if_neg (by decide), if_pos hdot])
                have t0 : w5.cell? ⟨w2.heap.size, 0, none⟩ = some (.int .i64 z) := (blk_cell HGS5.out.b10 0).trans rfl
                have t1 : w5.cell? ⟨w2.heap.size, 1, none⟩ = some (.slice D1 vs.length d1) := (blk_cell HGS5.out.b10 1).trans rfl
                have t2 : w5.cell? ⟨w2.heap.size, 2, none⟩ = some (.slice F2 fr.length f2) := (blk_cell HGS5.out.b10 2).trans rfl
                have p0 : w5.cell? ⟨w.heap.size, 0, none⟩ = some (.int .i64 0) := (blk_cell HGS5.out.b6 0).trans rfl
                have p1 : w5.cell? ⟨w.heap.size, 1, none⟩ = some (.slice none 0 0) := (blk_cell HGS5.out.b6 1).trans rfl
                have p2 : w5.cell? ⟨w.heap.size, 2, none⟩ = some (.slice none 0 0) := (blk_cell HGS5.out.b6 2).trans rfl
                have y0 : w5.frozen? ⟨w.heap.size, 0, none⟩ = false := blk_frozen HGS5.out.b6 0
                have y1 : w5.frozen? ⟨w.heap.size, 1, none⟩ = false := blk_frozen HGS5.out.b6 1
                have y2 : w5.frozen? ⟨w.heap.size, 2, none⟩ = false := blk_frozen HGS5.out.b6 2
                clear hdot HRS HML
                by_cases hf0 : fr.length = 0
                · have HG : Hid (res = (0, [], [], 5)) := Lib.hid (by rw [HRD.out, if_pos (.inl hf0)])
                  have hfb : ((fr.length : Int) == 0) = true := beq_iff_eq.2 (by omega)
                  clear hf0
                  go_wp2_with fail
                  rw [HG.out]
                  refine bodyPost_ret (results_ct rfl _ _ w.heap.size 25 #[.int .i64 0, .slice none 0 0, .slice none 0 0] (0, 0) _ rfl (blk_put (cs := #[.int .i64 0, .slice none 0 0, .slice none 0 0]) (blk_put (cs := #[.int .i64 0, .slice none 0 0, .slice none 0 0]) (blk_put (cs := #[.int .i64 0, .slice none 0 0, .slice none 0 0]) HGS5.out.b6 0 _ rfl) 1 _ rfl) 2 _ rfl) Tryd.underlying25 rfl (by kernel_rfl)) rfl ?_
                  exact got_err w _ 5 (below_set (below_set (below_set HGS5.out.below (Nat.le_refl _)) (Nat.le_refl _)) (Nat.le_refl _))
                · have hfb : ((fr.length : Int) == 0) = false := beq_eq_false_iff_ne.2 (by omega)
                  by_cases hr0 : (0 : Int) < (r.length : Int)
                  · have HG : Hid (res = (0, [], [], 5)) := Lib.hid (by rw [HRD.out, if_pos (.inr (by omega))])
                    clear hf0
                    go_wp2_with fail
                    rw [HG.out]
                    refine bodyPost_ret (results_ct rfl _ _ w.heap.size 25 #[.int .i64 0, .slice none 0 0, .slice none 0 0] (0, 0) _ rfl (blk_put (cs := #[.int .i64 0, .slice none 0 0, .slice none 0 0]) (blk_put (cs := #[.int .i64 0, .slice none 0 0, .slice none 0 0]) (blk_put (cs := #[.int .i64 0, .slice none 0 0, .slice none 0 0]) HGS5.out.b6 0 _ rfl) 1 _ rfl) 2 _ rfl) Tryd.underlying25 rfl (by kernel_rfl)) rfl ?_
                    exact got_err w _ 5 (below_set (below_set (below_set HGS5.out.below (Nat.le_refl _)) (Nat.le_refl _)) (Nat.le_refl _))
                  · have HG : Hid (res = (z, vs, fr, 0)) := Lib.hid (by rw [HRD.out, if_neg (by omega)])
                    clear hf0
                    go_wp2_with fail
                    rw [HG.out]
                    refine bodyPost_ret (results_ct rfl _ _ w.heap.size 25 #[.int .i64 z, .slice D1 vs.length d1, .slice F2 fr.length f2] (0, 0) _ rfl (blk_put (cs := #[.int .i64 z, .slice D1 vs.length d1, .slice none 0 0]) (blk_put (cs := #[.int .i64 z, .slice none 0 0, .slice none 0 0]) (blk_put (cs := #[.int .i64 0, .slice none 0 0, .slice none 0 0]) HGS5.out.b6 0 _ rfl) 1 _ rfl) 2 _ rfl) Tryd.underlying25 rfl (by kernel_rfl)) rfl ?_
                    have hI := HGS5.out.ini
                    have hR := HGS5.out.rows
                    have hI3 := Kd.F_far (Kd.F_far (Kd.F_far hI (p := ⟨w.heap.size, 0, none⟩) (fun k hk => hk.1.1) (.int .i64 z)) (p := ⟨w.heap.size, 1, none⟩) (fun k hk => hk.1.1) (.slice D1 vs.length d1)) (p := ⟨w.heap.size, 2, none⟩) (fun k hk => hk.1.1) (.slice F2 fr.length f2)
                    have hR3 := Kd.R_far (Kd.R_far (Kd.R_far hR (p := ⟨w.heap.size, 0, none⟩) (fun k hk => hk.1) (.int .i64 z)) (p := ⟨w.heap.size, 1, none⟩) (fun k hk => hk.1) (.slice D1 vs.length d1)) (p := ⟨w.heap.size, 2, none⟩) (fun k hk => hk.1) (.slice F2 fr.length f2)
                    obtain ⟨_, hf2, hC2⟩ := Kd.R_reads' hR3
                    exact ⟨D1, d1, F2, f2, rfl, HGS5.out.hd1, Kd.F_now hI3, hf2, hC2, below_set (below_set (below_set HGS5.out.below (Nat.le_refl _)) (Nat.le_refl _)) (Nat.le_refl _)⟩
              · have hsd : ((strOfNums l).toList == ([46] : List UInt8)) = false := beq_eq_false_iff_ne.2 (fun h => hdot ((one_str HN1.out 46).1 h))
                generalize hV : valuesF l a2 = q at HRS
                obtain ⟨us, ev⟩ := q
                have HRV : Hid (res = if ev ≠ 0 then (0, [], [], ev) else if fr.length = 256 then (0, [], [], 3) else framesF a2 z vs x.length r (fr ++ [us])) := Lib.hid (by rw [HRS.out, if_neg (by decide), if_neg hdot])
                have HCV := Lib.hid (vals_C l a2 us ev hV HML.out.1 A5 c5 w5 HC5.out h5)
                clear hdot HRS hV
                go_wp2_with fail
                refine HCV.out.mono ?_
                rintro e' w6 ⟨v6, rfl, hR6, hb6⟩
                obtain ⟨A7, c7, rfl⟩ := Kd.R_slice hR6
                have HGS6 := Lib.hid (HGS5.out.step hb6)
                have HF7 := Lib.hid (Kd.F_below HF6.out hb6)
                have HR6 := Lib.hid hR6
                have HLT := Lib.hid (show w.heap.size < w5.heap.size ∧ w2.heap.size < w5.heap.size from ⟨blk_lt HGS5.out.b6, blk_lt HGS5.out.b10⟩)
                have HFR := Lib.hid (Kd.fresh' (Kd.R_lt HGS5.out.rows))
                have HS6 := Lib.hid hb6.size
                clear hb6 hR6 HCV HF6 HC5 HGS5 hcv hsd
                by_cases hev : ev = 0
                · subst hev
                  have t2 : w6.cell? ⟨w2.heap.size, 2, none⟩ = some (.slice F2 fr.length f2) := (blk_cell HGS6.out.b10 2).trans rfl
                  by_cases h256 : fr.length = 256
                  · have HG : Hid (res = (0, [], [], 3)) := Lib.hid (by rw [HRV.out, if_neg (by decide), if_pos h256])
                    have p0 : w6.cell? ⟨w.heap.size, 0, none⟩ = some (.int .i64 0) := (blk_cell HGS6.out.b6 0).trans rfl
                    have p1 : w6.cell? ⟨w.heap.size, 1, none⟩ = some (.slice none 0 0) := (blk_cell HGS6.out.b6 1).trans rfl
                    have p2 : w6.cell? ⟨w.heap.size, 2, none⟩ = some (.slice none 0 0) := (blk_cell HGS6.out.b6 2).trans rfl
                    have y0 : w6.frozen? ⟨w.heap.size, 0, none⟩ = false := blk_frozen HGS6.out.b6 0
                    have y1 : w6.frozen? ⟨w.heap.size, 1, none⟩ = false := blk_frozen HGS6.out.b6 1
                    have y2 : w6.frozen? ⟨w.heap.size, 2, none⟩ = false := blk_frozen HGS6.out.b6 2
                    have hfb : ((fr.length : Int) == 256) = true := beq_iff_eq.2 (by omega)
                    clear h256
                    go_wp2_with fail
                    rw [HG.out]
                    refine bodyPost_ret (results_ct rfl _ _ w.heap.size 25 #[.int .i64 0, .slice none 0 0, .slice none 0 0] (0, 0) _ rfl (blk_put (cs := #[.int .i64 0, .slice none 0 0, .slice none 0 0]) (blk_put (cs := #[.int .i64 0, .slice none 0 0, .slice none 0 0]) (blk_put (cs := #[.int .i64 0, .slice none 0 0, .slice none 0 0]) HGS6.out.b6 0 _ rfl) 1 _ rfl) 2 _ rfl) Tryd.underlying25 rfl (by kernel_rfl)) rfl ?_
                    exact got_err w _ 3 (below_set (below_set (below_set HGS6.out.below (Nat.le_refl _)) (Nat.le_refl _)) (Nat.le_refl _))
                  · have hfb : ((fr.length : Int) == 256) = false := beq_eq_false_iff_ne.2 (by omega)
                    have hlk : (fr.length + 1) * 24 ≤ 140737488355328 := by omega
                    have hfl2 : fr.length < 256 := by omega
                    have HRW : Hid (res = framesF a2 z vs (r.length + 1) r (fr ++ [us])) := Lib.hid (by
                      rw [HRV.out, if_neg (by decide), if_neg h256]
                      exact frames_fuel _ _ _ _ _ _ _ (HML.out.2.2 (by first | rfl | trivial)) (Nat.lt_succ_self _))
                    clear h256
                    go_wp2_with (at_builtin; refine Kd.R_append (Kd.slice 5 (Kd.int .u8)) (w0 := w) w.heap.size rfl _ _ 23 22 (.slice none 0 0) 24 rfl Tryd.underlying23 info_rw rfl (by decide) (by decide) (.slice F2 fr.length f2) fr us [.slice A7 us.length c7] (fun k => k ≠ w.heap.size ∧ k ≠ w2.heap.size) (fun k => w5.heap.size ≤ k) rfl rfl ?hp (fun k hk => ⟨⟨by have := HLT.out; omega, by have := HLT.out; omega⟩, fun h => HFR.out k hk h⟩) (fun k hk => ⟨by have := HLT.out; have := HS6.out; omega, by have := HLT.out; have := HS6.out; omega⟩) HGS6.out.rows HGS6.out.below HGS6.out.below.size hlk ?_; (case hp => exact Kd.M_row (Kd.R_lower HR6.out (by have := HLT.out; omega))))
                    intro v9 w9 hR9 hB9 hg9 hat9
                    obtain ⟨F9, f9, rfl⟩ := Kd.R_slice hR9
                    have hb10 := (hg9.block w2.heap.size (blk_lt HGS6.out.b10) (fun h => (HGS6.out.rows.1 _ h.symm).2 rfl)).trans HGS6.out.b10
                    have hb6 := (hg9.block w.heap.size (blk_lt HGS6.out.b6) (fun h => (HGS6.out.rows.1 _ h.symm).1 rfl)).trans HGS6.out.b6
                    have t9 : w9.cell? ⟨w2.heap.size, 2, none⟩ = some (.slice F2 fr.length f2) := (blk_cell hb10 2).trans rfl
                    have y9 : w9.frozen? ⟨w2.heap.size, 2, none⟩ = false := blk_frozen hb10 2
                    have hI9 := Kd.F_far (Kd.F_after HGS6.out.ini hg9 hat9) (p := ⟨w2.heap.size, 2, none⟩) (fun k hk => hk.1.2) (.slice F9 (fr ++ [us]).length f9)
                    have hX9 := Kd.F_far (Kd.F_after HF7.out hg9 hat9) (p := ⟨w2.heap.size, 2, none⟩) (fun k hk => hk.1.2) (.slice F9 (fr ++ [us]).length f9)
                    have hR9' := Kd.R_far hR9 (p := ⟨w2.heap.size, 2, none⟩) (fun k hk => hk.2) (.slice F9 (fr ++ [us]).length f9)
                    have HGSN : Hid (GetS w (w9.setCell ⟨w2.heap.size, 2, none⟩ (.slice F9 (fr ++ [us]).length f9)) w.heap.size w2.heap.size z vs (fr ++ [us]) D1 d1 (.slice F9 (fr ++ [us]).length f9)) := Lib.hid {
                      b6 := blk_far hb6 (p := ⟨w2.heap.size, 2, none⟩) (Nat.ne_of_lt HG10.out) _
                      b10 := blk_put hb10 2 _ rfl
                      ne := Nat.ne_of_lt HG10.out
                      ge6 := Nat.le_refl _
                      ge10 := Nat.le_of_lt HG10.out
                      hd1 := HGS6.out.hd1
                      ini := hI9
                      rows := hR9'
                      below := below_set hB9 (Nat.le_of_lt HG10.out) }
                    have HLN : Hid (GetL w (w9.setCell ⟨w2.heap.size, 2, none⟩ (.slice F9 (fr ++ [us]).length f9)) w.heap.size w2.heap.size z vs D1 d1 a2 res (.slice A6 r.length c6)) := Lib.hid ⟨A6, c6, r, fr ++ [us], _, rfl, h6, hX9, HML.out.2.1, HN2.out, by rw [List.length_append]; show fr.length + 1 ≤ 256; omega, HGSN.out, HRW.out⟩
                    have HMS := Lib.hid (HML.out.2.2 (by first | rfl | trivial))
                    clear hR9 hB9 hg9 hat9 hb10 hb6 hI9 hX9 hR9' HGSN HRW HML HN1 HN2 HGS6 HF7 HR6 HFR HRV HLT HS6 t2
                    go_wp2_with fail
                    go_roundw
                    case rel =>
                      rw [show (fr ++ [us]).length = fr.length + 1 from by simp] at HLN
                      first
                        | exact HLN
                        | (repeat apply Exists.intro
                           exact ⟨HLN, rfl⟩)
                    case measure => exact HMS.out
                · have HG : Hid (res = (0, [], [], ev)) := Lib.hid (by rw [HRV.out, if_pos hev])
                  have heb : (ev != 0) = true := bne_iff_ne.2 hev
                  have p0 : w6.cell? ⟨w.heap.size, 0, none⟩ = some (.int .i64 0) := (blk_cell HGS6.out.b6 0).trans rfl
                  have p1 : w6.cell? ⟨w.heap.size, 1, none⟩ = some (.slice none 0 0) := (blk_cell HGS6.out.b6 1).trans rfl
                  have p2 : w6.cell? ⟨w.heap.size, 2, none⟩ = some (.slice none 0 0) := (blk_cell HGS6.out.b6 2).trans rfl
                  have y0 : w6.frozen? ⟨w.heap.size, 0, none⟩ = false := blk_frozen HGS6.out.b6 0
                  have y1 : w6.frozen? ⟨w.heap.size, 1, none⟩ = false := blk_frozen HGS6.out.b6 1
                  have y2 : w6.frozen? ⟨w.heap.size, 2, none⟩ = false := blk_frozen HGS6.out.b6 2
                  clear hev
                  go_wp2_with fail
                  rw [HG.out]
                  refine bodyPost_ret (results_ct rfl _ _ w.heap.size 25 #[.int .i64 0, .slice none 0 0, .slice none 0 0] (0, 0) _ rfl (blk_put (cs := #[.int .i64 0, .slice none 0 0, .slice none 0 0]) (blk_put (cs := #[.int .i64 0, .slice none 0 0, .slice none 0 0]) (blk_put (cs := #[.int .i64 0, .slice none 0 0, .slice none 0 0]) HGS6.out.b6 0 _ rfl) 1 _ rfl) 2 _ rfl) Tryd.underlying25 rfl (by kernel_rfl)) rfl ?_
                  exact got_err w _ ev (below_set (below_set (below_set HGS6.out.below (Nat.le_refl _)) (Nat.le_refl _)) (Nat.le_refl _))
            · have HG : Hid (res = (0, [], [], e)) := Lib.hid (by rw [HRS.out, if_pos he])
              have heb : (e != 0) = true := bne_iff_ne.2 he
              have p0 : w5.cell? ⟨w.heap.size, 0, none⟩ = some (.int .i64 0) := (blk_cell HGS5.out.b6 0).trans rfl
              have p1 : w5.cell? ⟨w.heap.size, 1, none⟩ = some (.slice none 0 0) := (blk_cell HGS5.out.b6 1).trans rfl
              have p2 : w5.cell? ⟨w.heap.size, 2, none⟩ = some (.slice none 0 0) := (blk_cell HGS5.out.b6 2).trans rfl
              have y0 : w5.frozen? ⟨w.heap.size, 0, none⟩ = false := blk_frozen HGS5.out.b6 0
              have y1 : w5.frozen? ⟨w.heap.size, 1, none⟩ = false := blk_frozen HGS5.out.b6 1
              have y2 : w5.frozen? ⟨w.heap.size, 2, none⟩ = false := blk_frozen HGS5.out.b6 2
              clear he
              go_wp2_with fail
              rw [HG.out]
              refine bodyPost_ret (results_ct rfl _ _ w.heap.size 25 #[.int .i64 0, .slice none 0 0, .slice none 0 0] (0, 0) _ rfl (blk_put (cs := #[.int .i64 0, .slice none 0 0, .slice none 0 0]) (blk_put (cs := #[.int .i64 0, .slice none 0 0, .slice none 0 0]) (blk_put (cs := #[.int .i64 0, .slice none 0 0, .slice none 0 0]) HGS5.out.b6 0 _ rfl) 1 _ rfl) 2 _ rfl) Tryd.underlying25 rfl (by kernel_rfl)) rfl ?_
              exact got_err w _ e (below_set (below_set (below_set HGS5.out.below (Nat.le_refl _)) (Nat.le_refl _)) (Nat.le_refl _))
        · have HG : Hid (getF b a1 a2 = (0, [], [], ev)) := Lib.hid (by rw [HGF.out, if_neg (by decide), if_neg (by decide), if_pos hev])
          have heb2 : (ev != 0) = true := bne_iff_ne.2 hev
          have p0 : (w4.setCell ⟨w2.heap.size, 1, none⟩ (.slice D1 vs.length d1)).cell? ⟨w.heap.size, 0, none⟩ = some (.int .i64 0) := (blk_cell H6s.out 0).trans rfl
          have p1 : (w4.setCell ⟨w2.heap.size, 1, none⟩ (.slice D1 vs.length d1)).cell? ⟨w.heap.size, 1, none⟩ = some (.slice none 0 0) := (blk_cell H6s.out 1).trans rfl
          have p2 : (w4.setCell ⟨w2.heap.size, 1, none⟩ (.slice D1 vs.length d1)).cell? ⟨w.heap.size, 2, none⟩ = some (.slice none 0 0) := (blk_cell H6s.out 2).trans rfl
          have f0 : (w4.setCell ⟨w2.heap.size, 1, none⟩ (.slice D1 vs.length d1)).frozen? ⟨w.heap.size, 0, none⟩ = false := blk_frozen H6s.out 0
          have f1 : (w4.setCell ⟨w2.heap.size, 1, none⟩ (.slice D1 vs.length d1)).frozen? ⟨w.heap.size, 1, none⟩ = false := blk_frozen H6s.out 1
          have f2 : (w4.setCell ⟨w2.heap.size, 1, none⟩ (.slice D1 vs.length d1)).frozen? ⟨w.heap.size, 2, none⟩ = false := blk_frozen H6s.out 2
          clear hev
          go_wp2_with fail
          rw [HG.out]
          refine bodyPost_ret (results_ct rfl _ _ w.heap.size 25 #[.int .i64 0, .slice none 0 0, .slice none 0 0] (0, 0) _ rfl (blk_put (cs := #[.int .i64 0, .slice none 0 0, .slice none 0 0]) (blk_put (cs := #[.int .i64 0, .slice none 0 0, .slice none 0 0]) (blk_put (cs := #[.int .i64 0, .slice none 0 0, .slice none 0 0]) H6s.out 0 _ rfl) 1 _ rfl) 2 _ rfl) Tryd.underlying25 rfl (by kernel_rfl)) rfl ?_
          exact got_err w _ ev (below_set (below_set (below_set HB4s.out (Nat.le_refl _)) (Nat.le_refl _)) (Nat.le_refl _))
      · have HG : Hid (getF b a1 a2 = (0, [], [], e3)) := Lib.hid (by rw [HGF.out, if_neg (by decide), if_pos he3])
        have heb : (e3 == 0) = false := beq_eq_false_iff_ne.2 he3
        have heb2 : (e3 != 0) = true := bne_iff_ne.2 he3
        have q0 : w3.cell? ⟨w.heap.size, 0, none⟩ = some (.int .i64 0) := (blk_cell H6.out 0).trans rfl
        have q1 : w3.cell? ⟨w.heap.size, 1, none⟩ = some (.slice none 0 0) := (blk_cell H6.out 1).trans rfl
        have q2 : w3.cell? ⟨w.heap.size, 2, none⟩ = some (.slice none 0 0) := (blk_cell H6.out 2).trans rfl
        have z0 : w3.frozen? ⟨w.heap.size, 0, none⟩ = false := blk_frozen H6.out 0
        have z1 : w3.frozen? ⟨w.heap.size, 1, none⟩ = false := blk_frozen H6.out 1
        have z2 : w3.frozen? ⟨w.heap.size, 2, none⟩ = false := blk_frozen H6.out 2
        clear he3
        go_wp2_with fail
        rw [HG.out]
        refine bodyPost_ret (results_ct rfl _ _ w.heap.size 25 #[.int .i64 0, .slice none 0 0, .slice none 0 0] (0, 0) _ rfl (blk_put (cs := #[.int .i64 0, .slice none 0 0, .slice none 0 0]) (blk_put (cs := #[.int .i64 0, .slice none 0 0, .slice none 0 0]) (blk_put (cs := #[.int .i64 0, .slice none 0 0, .slice none 0 0]) H6.out 0 _ rfl) 1 _ rfl) 2 _ rfl) Tryd.underlying25 rfl (by kernel_rfl)) rfl ?_
        exact got_err w _ e3 (below_set (below_set (below_set HB3.out (Nat.le_refl _)) (Nat.le_refl _)) (Nat.le_refl _))
    · have HG : Hid (getF b a1 a2 = (0, [], [], eh)) := Lib.hid (by rw [HGF.out, if_pos he])
      have heb : (eh != 0) = true := bne_iff_ne.2 he
      clear he
      go_wp2_with fail
      rw [HG.out]
      refine bodyPost_ret (results_ct rfl _ _ w.heap.size 25 #[.int .i64 0, .slice none 0 0, .slice none 0 0] (0, 0) _ rfl (blk_put (cs := #[.int .i64 0, .slice none 0 0, .slice none 0 0]) (blk_put (cs := #[.int .i64 0, .slice none 0 0, .slice none 0 0]) (blk_put (cs := #[.int .i64 0, .slice none 0 0, .slice none 0 0]) HX2.out 0 _ rfl) 1 _ rfl) 2 _ rfl) Tryd.underlying25 rfl (by kernel_rfl)) rfl ?_
      exact got_err w _ eh (below_set (below_set (below_set HB2.out (Nat.le_refl _)) (Nat.le_refl _)) (Nat.le_refl _))
end Go.Proofs.YtfajplhkbpobiaaDoor.Z
