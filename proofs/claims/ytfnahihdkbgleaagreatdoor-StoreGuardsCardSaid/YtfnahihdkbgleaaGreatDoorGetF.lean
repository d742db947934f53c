/- What store.item and store.Get answer. -/
import Derived.Lib.SplitLaws
import Derived.Test.YtfnahihdkbgleaaGreatDoorZ1
import Derived.Test.YtfnahihdkbgleaaGreatDoorWords
import Derived.Test.YtfnahihdkbgleaaGreatDoorNumber
import Derived.Test.YtfnahihdkbgleaaGreatDoorFine
import Derived.Test.YtfnahihdkbgleaaGreatDoorBody
import Derived.Test.YtfnahihdkbgleaaGreatDoorHas
/- Pieces at one byte: Lib.split there and back. -/
namespace Go.Proofs.YtfnahihdkbgleaaGreatDoor.Z
open Go.Lib
set_option linter.unusedVariables false
theorem index_eq (c : UInt8) (l : List UInt8) : index (c :: l) [c] = 0 := by rw [index]; simp [List.isPrefixOf]
theorem index_ne {b c : UInt8} (l : List UInt8) (h : b ≠ c) : index (b :: l) [c] = if index l [c] == -1 then -1 else index l [c] + 1 := by
  have hp : ([c] : List UInt8).isPrefixOf (b :: l) = false := by simp [List.isPrefixOf, Ne.symm h]
  rw [index, hp]; simp
theorem pieces_nil (c : UInt8) : split [] [c] = [[]] := by
  unfold split
  rw [count_miss (by simp [index])]
  rfl
theorem pieces_eq (c : UInt8) (l : List UInt8) : split (c :: l) [c] = [] :: split l [c] := by
  unfold split
  rw [count_cons_eq, Nat.add_comm, splitK, index_eq]
  simp
theorem pieces_ne {b c : UInt8} (l : List UInt8) (h : b ≠ c) : ∃ p t, split l [c] = p :: t ∧ split (b :: l) [c] = (b :: p) :: t := by
  unfold split
  rw [count_cons_ne b c l h]
  have hix := index_ne l h
  by_cases hm : index l [c] = -1
  · rw [count_miss hm]
    exact ⟨l, [], rfl, rfl⟩
  · have hge := index_ge l [c]
    obtain ⟨j, hj⟩ : ∃ j : Nat, index l [c] = j := ⟨(index l [c]).toNat, by omega⟩
    rw [hj, if_neg (by simp)] at hix
    have hc := count_hit (sub := [c]) (by simp) hj
    rw [show count l [c] = (count (l.drop (j + [c].length)) [c]) + 1 by omega]
    refine ⟨l.take j, splitK [c] 0 (count (l.drop (j + [c].length)) [c]) (l.drop (j + 1)), ?_, ?_⟩
    · rw [splitK, hj, if_neg (by simp)]
      simp
    · rw [splitK, hix, if_neg (by simp; omega)]
      have e1 : ((j : Int) + 1).toNat = j + 1 := by omega
      rw [e1]
      simp
def joinC (c : UInt8) : List (List UInt8) → List UInt8
  | [] => []
  | [p] => p
  | p :: q :: t => p ++ c :: joinC c (q :: t)
theorem joinC_cons (c b : UInt8) (p : List UInt8) (t : List (List UInt8)) : joinC c ((b :: p) :: t) = b :: joinC c (p :: t) := by
  cases t <;> rfl
theorem joinC_sep (c : UInt8) (p : List UInt8) (t : List (List UInt8)) (h : t ≠ []) : joinC c (p :: t) = p ++ c :: joinC c t := by
  cases t with
  | nil => exact absurd rfl h
  | cons q t => rfl
/-- The pieces, joined again, are the text; no piece holds the byte. -/
theorem pieces_back (c : UInt8) : ∀ l : List UInt8, split l [c] ≠ [] ∧ joinC c (split l [c]) = l ∧ ∀ p ∈ split l [c], c ∉ p
  | [] => by rw [pieces_nil]; exact ⟨by simp, rfl, by simp⟩
  | b :: l => by
    obtain ⟨h0, h1, h2⟩ := pieces_back c l
    by_cases h : b = c
    · subst h
      rw [pieces_eq]
      refine ⟨by simp, ?_, ?_⟩
      · rw [joinC_sep b [] _ h0, h1]; rfl
      · intro p hp
        rcases List.mem_cons.1 hp with rfl | hp
        · simp
        · exact h2 p hp
    · obtain ⟨p, t, he, hs⟩ := pieces_ne l h
      rw [he] at h1 h2
      rw [hs]
      refine ⟨by simp, by rw [joinC_cons, h1], ?_⟩
      intro q hq
      rcases List.mem_cons.1 hq with rfl | hq
      · intro hc
        rcases List.mem_cons.1 hc with e | hc
        · exact h e.symm
        · exact h2 p (by simp) hc
      · exact h2 q (by simp [hq])
theorem pieces_one (c : UInt8) : ∀ (p : List UInt8), c ∉ p → split p [c] = [p]
  | [], _ => pieces_nil c
  | b :: p, h => by
    have hb : b ≠ c := fun e => h (by simp [e])
    obtain ⟨q, t, he, hs⟩ := pieces_ne p hb
    rw [pieces_one c p (fun hc => h (by simp [hc]))] at he
    obtain ⟨rfl, rfl⟩ := List.cons.inj he
    exact hs
theorem pieces_cut (c : UInt8) (l : List UInt8) : ∀ (p : List UInt8), c ∉ p → split (p ++ c :: l) [c] = p :: split l [c]
  | [], _ => pieces_eq c l
  | b :: p, h => by
    have hb : b ≠ c := fun e => h (by simp [e])
    obtain ⟨q, t, he, hs⟩ := pieces_ne (p ++ c :: l) hb
    rw [pieces_cut c l p (fun hc => h (by simp [hc]))] at he
    obtain ⟨rfl, rfl⟩ := List.cons.inj he
    exact hs
end Go.Proofs.YtfnahihdkbgleaaGreatDoor.Z

/- Plain laws: numerals, names, lines, words. -/
namespace Go.Proofs.YtfnahihdkbgleaaGreatDoor.Z
open Go.RowKit
set_option linter.unusedVariables false
theorem spell_snoc (l : List UInt8) (d : UInt8) : ∀ acc, spell acc (l ++ [d]) = spell acc l * 10 + (d.toNat - 48) := by
  induction l with
  | nil => intro acc; rfl
  | cons c r ih => intro acc; exact ih _
theorem dig_nat {n : Nat} (h : n < 10) : (UInt8.ofNat (48 + n)).toNat = 48 + n := by
  rw [UInt8.toNat_ofNat']
  omega
theorem dig_B {n : Nat} (h : n < 10) : digitB (UInt8.ofNat (48 + n)) = true := by
  unfold digitB
  rw [dig_nat h]
  simp
  omega
theorem head_app {α : Type} {l : List α} (m : List α) (h : l ≠ []) : (l ++ m).head? = l.head? := by
  cases l with
  | nil => exact absurd rfl h
  | cons a t => rfl
theorem dig_all {n : Nat} (h : n < 10) : [UInt8.ofNat (48 + n)].all digitB = true := by
  show (digitB (UInt8.ofNat (48 + n)) && true) = true
  rw [dig_B h]; rfl
theorem dec_small {u : Nat} (h : u < 10) : Lib.decDigits u = [UInt8.ofNat (48 + u)] := by rw [Lib.decDigits, dif_pos h]
theorem dec_great {u : Nat} (h : ¬ u < 10) : Lib.decDigits u = Lib.decDigits (u / 10) ++ [UInt8.ofNat (48 + u % 10)] := by rw [Lib.decDigits, dif_neg h]
theorem dec_laws (u : Nat) : (Lib.decDigits u).all digitB = true ∧ spell 0 (Lib.decDigits u) = u ∧ Lib.decDigits u ≠ [] ∧ (1 ≤ u → (Lib.decDigits u).head? ≠ some 48) ∧ (u < 10 → (Lib.decDigits u).length = 1) := by
  induction u using Nat.strongRecOn with
  | _ u ih =>
    by_cases h : u < 10
    · rw [dec_small h]
      refine ⟨dig_all h, ?_, by simp, ?_, by simp⟩
      · show 0 * 10 + ((UInt8.ofNat (48 + u)).toNat - 48) = u
        rw [dig_nat h]
        omega
      · intro h1 e
        have := congrArg (fun o : Option UInt8 => o.map UInt8.toNat) e
        simp only [List.head?_cons, Option.map_some, dig_nat h] at this
        have h2 := Option.some.inj this
        have : (48 : UInt8).toNat = 48 := rfl
        omega
    · obtain ⟨a, b, c, d, _⟩ := ih (u / 10) (by omega)
      rw [dec_great h]
      refine ⟨by rw [List.all_append, a, dig_all (Nat.mod_lt u (by omega))]; rfl, ?_, by simp, ?_, fun h' => absurd h' h⟩
      · rw [spell_snoc, b, dig_nat (Nat.mod_lt u (by omega))]
        omega
      · intro _
        rw [head_app _ c]
        exact d (by omega)
theorem numeral_dec (u : Nat) : numeralB (Lib.decDigits u) = true := by
  obtain ⟨a, b, c, d, e⟩ := dec_laws u
  unfold numeralB
  rw [a]
  simp only [Bool.and_true, Bool.and_eq_true, decide_eq_true_eq, Bool.not_eq_true', Bool.and_eq_false_iff, decide_eq_false_iff_not]
  refine ⟨c, ?_⟩
  by_cases h : u < 10
  · left
    rw [e h]
    omega
  · right
    exact d (by omega)
theorem dec_of_spell : ∀ (n : Nat) (l : List UInt8), l.length = n → numeralB l = true → l = Lib.decDigits (spell 0 l) := by
  intro n
  induction n with
  | zero =>
    intro l hl h
    unfold numeralB at h
    obtain rfl := List.length_eq_zero_iff.1 hl
    simp at h
  | succ n ih =>
    intro l hl h
    have hd : ∀ d : UInt8, digitB d = true → 48 ≤ d.toNat ∧ d.toNat ≤ 57 := by
      intro d h
      unfold digitB at h
      simpa using h
    unfold numeralB at h
    simp only [Bool.and_eq_true, decide_eq_true_eq, Bool.not_eq_true', Bool.and_eq_false_iff, decide_eq_false_iff_not] at h
    obtain ⟨⟨h0, h1⟩, h2⟩ := h
    obtain ⟨m, d, rfl⟩ : ∃ m d, l = m ++ [d] := ⟨l.dropLast, l.getLast h0, (List.dropLast_concat_getLast h0).symm⟩
    rw [List.all_append, Bool.and_eq_true] at h2
    have hdd := hd d (by simpa using h2.2)
    rw [spell_snoc]
    by_cases hm : m = []
    · subst hm
      show [d] = Lib.decDigits (0 * 10 + (d.toNat - 48))
      rw [dec_small (by omega), show 48 + (0 * 10 + (d.toNat - 48)) = d.toNat by omega, UInt8.ofNat_toNat]
    · have hml : 1 ≤ m.length := by
        rcases Nat.eq_zero_or_pos m.length with e | e
        · exact absurd (List.length_eq_zero_iff.1 e) hm
        · exact e
      have hh : m.head? ≠ some 48 := by
        rcases h1 with h1 | h1
        · rw [List.length_append, List.length_singleton] at h1; omega
        · rwa [head_app _ hm] at h1
      have hnm : numeralB m = true := by
        unfold numeralB
        simp [hm, h2.1, hh]
      have hmm := ih m (by simpa using hl) hnm
      have hge : 1 ≤ spell 0 m := by
        cases m with
        | nil => exact absurd rfl hm
        | cons c t =>
          have hc := hd c (by have := h2.1; rw [List.all_cons, Bool.and_eq_true] at this; exact this.1)
          have hc48 : c.toNat ≠ 48 := fun e => hh (by
            have : c = 48 := UInt8.toNat_inj.1 e
            rw [this]; rfl)
          have := spell_ge t (0 * 10 + (c.toNat - 48))
          show 1 ≤ spell (0 * 10 + (c.toNat - 48)) t
          omega
      rw [dec_great (by omega), show (spell 0 m * 10 + (d.toNat - 48)) / 10 = spell 0 m by omega, show (spell 0 m * 10 + (d.toNat - 48)) % 10 = d.toNat - 48 by omega, ← hmm, show 48 + (d.toNat - 48) = d.toNat by omega, UInt8.ofNat_toNat]
theorem itoa_nat (u : Nat) : Lib.itoa (u : Int) = Lib.decDigits u := by unfold Lib.itoa; rw [if_neg (by omega)]; simp
theorem numF_itoa (s : ByteArray) (m : Int) (u : Nat) (hs : s.data.toList = Lib.itoa (u : Int)) (hm : (u : Int) ≤ m) : numF s m = ((u : Int), 0) := by
  obtain ⟨a, b, _⟩ := dec_laws u
  unfold numF
  rw [hs, itoa_nat, numeral_dec, if_pos rfl, b, if_pos hm]
theorem numF_back (s : ByteArray) (m : Int) (h : (numF s m).2 = 0) : ∃ u : Nat, (numF s m).1 = (u : Int) ∧ (u : Int) ≤ m ∧ s.data.toList = Lib.itoa (u : Int) := by
  unfold numF at h ⊢
  split at h
  · rename_i h1
    split at h
    · rename_i h2
      rw [if_pos h1, if_pos h2]
      exact ⟨_, rfl, h2, by rw [itoa_nat]; exact dec_of_spell _ _ rfl h1⟩
    · simp at h
  · simp at h
theorem itoa_mem (u : Nat) (c : UInt8) (h : c ∈ Lib.itoa (u : Int)) : digitB c = true := by
  rw [itoa_nat] at h
  exact List.all_eq_true.1 (dec_laws u).1 c h
theorem itoa_ne (u : Nat) : Lib.itoa (u : Int) ≠ [] := by rw [itoa_nat]; exact (dec_laws u).2.2.1
theorem itoa_inj {u v : Nat} (h : Lib.itoa (u : Int) = Lib.itoa (v : Int)) : u = v := by
  rw [itoa_nat, itoa_nat] at h
  rw [← (dec_laws u).2.1, h, (dec_laws v).2.1]
/-- The bytes of a name are none but these. -/
theorem odd_great (r : Nat) (h : 123 ≤ r) : oddB r = true := by
  unfold oddB
  simp
  omega
theorem decode_low (s : ByteArray) (i : Nat) (h : (Utf8.decode s i).1 < 123) : Utf8.decode s i = ((s.get! i).toNat, 1) := by
  have e0 : s.get! (i + 0) = s.get! i := rfl
  unfold Utf8.decode at h ⊢
  simp only [Nat.add_zero] at h ⊢
  split
  · rfl
  · rename_i h0
    exfalso
    rw [if_neg h0] at h
    split at h
    · split at h
      · rename_i hc
        simp only at h hc
        omega
      · simp [Utf8.runeError] at h
    · split at h
      · split at h
        · rename_i hc
          simp only [Bool.and_eq_true, decide_eq_true_eq] at h hc
          omega
        · simp [Utf8.runeError] at h
      · split at h
        · split at h
          · rename_i hc
            simp only [Bool.and_eq_true, decide_eq_true_eq] at h hc
            omega
          · simp [Utf8.runeError] at h
        · simp [Utf8.runeError] at h
theorem idx_none (s : ByteArray) : ∀ (f pos : Nat), s.size ≤ pos + f → Lib.idxFuncFrom oddB true s f pos = -1 → ∀ i, pos ≤ i → i < s.size → oddB (s.get! i).toNat = false
  | 0, pos, hf, _, i, h1, h2 => by omega
  | f + 1, pos, hf, h, i, h1, h2 => by
    unfold Lib.idxFuncFrom at h
    rw [if_pos (by omega)] at h
    split at h
    · omega
    · rename_i ho
      have ho' : oddB (Utf8.decode s pos).1 = false := by simpa using ho
      have hlow : (Utf8.decode s pos).1 < 123 := by
        rcases Nat.lt_or_ge (Utf8.decode s pos).1 123 with h | h
        · exact h
        · rw [odd_great _ h] at ho'
          cases ho'
      rw [decode_low s pos hlow] at ho' h
      rcases Nat.lt_or_eq_of_le h1 with hlt | rfl
      · exact idx_none s f (pos + 1) (by omega) h i hlt h2
      · exact ho'
theorem named_bytes (s : ByteArray) (h : namedB s = true) : s.data.toList ≠ [] ∧ ∀ b ∈ s.data.toList, oddB b.toNat = false := by
  unfold namedB at h
  simp only [Bool.and_eq_true, decide_eq_true_eq, Bool.not_eq_true', decide_eq_false_iff_not] at h
  obtain ⟨⟨h0, _⟩, h2⟩ := h
  refine ⟨fun e => h0 (by rw [← size_list, e]; rfl), fun b hb => ?_⟩
  obtain ⟨i, hi, rfl⟩ := List.mem_iff_getElem.1 hb
  have hi' : i < s.size := by rw [← size_list]; exact hi
  have hx : Lib.idxFunc oddB true s = -1 := by
    rcases Lib.idxFunc_range oddB true s with e | e
    · exact e
    · omega
  have := idx_none s s.size 0 (by omega) hx i (by omega) hi'
  have hg : s.get! i = s.data.toList[i] := by
    simp only [ByteArray.get!, Array.getElem_toList]
    exact getElem!_pos s.data i (by simpa using hi)
  rwa [hg] at this
theorem named_no (s : ByteArray) (h : namedB s = true) : (32 : UInt8) ∉ s.data.toList ∧ (10 : UInt8) ∉ s.data.toList := by
  have := (named_bytes s h).2
  refine ⟨fun hc => ?_, fun hc => ?_⟩
  · have := this _ hc
    revert this
    decide
  · have := this _ hc
    revert this
    decide
theorem line_cut (p r : List Int) (h : ∀ c ∈ p, c ≠ 10) : lineF (p ++ 10 :: r) = (p, r, 0) := by
  have hx : lineAt (p ++ 10 :: r) = some p.length := by
    refine line_some (by simp) (fun j hj => ?_) ?_
    · have : (p ++ 10 :: r).getD j 0 = p[j] := by simp [List.getD, List.getElem?_append_left hj, hj]
      rw [this]
      exact h _ (List.getElem_mem hj)
    · simp [List.getD]
  unfold lineF
  rw [hx]
  simp
theorem line_back {l p r : List Int} {e : Int} (he : e = 0) (h : lineF l = (p, r, e)) : l = p ++ 10 :: r ∧ ∀ c ∈ p, c ≠ 10 := by
  subst he
  unfold lineF at h
  split at h
  · simp at h
  · rename_i i hx
    unfold lineAt at hx
    rw [List.findIdx?_eq_some_iff_getElem] at hx
    obtain ⟨hi, h10, hlow⟩ := hx
    simp only [Prod.mk.injEq, and_true] at h
    obtain ⟨rfl, rfl⟩ := h
    have h10' : l[i] = 10 := by simpa using h10
    refine ⟨?_, fun c hc => ?_⟩
    · rw [← h10', List.getElem_cons_drop, List.take_append_drop]
    · obtain ⟨j, hj, rfl⟩ := List.mem_iff_getElem.1 hc
      rw [List.length_take] at hj
      have := hlow j (by omega)
      rw [List.getElem_take]
      simpa using this
theorem words_map (s : ByteArray) : (wordsL s).map (·.data.toList) = Lib.split s.data.toList [32] := by
  unfold wordsL
  rw [Lib.splitB_data]
  rfl
theorem bytes_ext {a b : ByteArray} (h : a.data.toList = b.data.toList) : a = b := by
  cases a; cases b
  exact congrArg ByteArray.mk (Array.ext' h)
theorem map_bytes_inj {a b : List ByteArray} (h : a.map (·.data.toList) = b.map (·.data.toList)) : a = b :=
  List.map_inj_right (fun x y h => bytes_ext h) |>.1 h
theorem str_toI (l : List UInt8) : (strOfNums (toI l)).data.toList = l := by
  rw [strOfNums_data]
  unfold toI
  rw [List.map_map]
  conv => rhs; rw [← List.map_id l]
  apply List.map_congr_left
  intro b _
  simp
theorem toI_str (l : List Int) (h : ∀ c ∈ l, 0 ≤ c ∧ c < 256) : toI (strOfNums l).data.toList = l := by
  rw [strOfNums_data]
  unfold toI
  rw [List.map_map]
  conv => rhs; rw [← List.map_id l]
  apply List.map_congr_left
  intro c hc
  have := h c hc
  simp
  omega
theorem toI_append (a b : List UInt8) : toI (a ++ b) = toI a ++ toI b := List.map_append
theorem toI_length (a : List UInt8) : (toI a).length = a.length := List.length_map _
/-- What a word may be. -/
def WordOk (s : ByteArray) : Prop := s.data.toList ≠ [] ∧ (32 : UInt8) ∉ s.data.toList
theorem split_join : ∀ (ps : List (List UInt8)), ps ≠ [] → (∀ p ∈ ps, (32 : UInt8) ∉ p) → Lib.split (joinC 32 ps) [32] = ps
  | [], h, _ => absurd rfl h
  | [p], _, h => pieces_one 32 p (h p (by simp))
  | p :: q :: t, _, h => by
    rw [joinC_sep 32 p (q :: t) (by simp), pieces_cut 32 _ p (h p (by simp)), split_join (q :: t) (by simp) (fun x hx => h x (by simp [hx]))]
theorem join_ne : ∀ (ps : List (List UInt8)), ps ≠ [] → (∀ p ∈ ps, p ≠ []) → joinC 32 ps ≠ []
  | [], h, _ => absurd rfl h
  | [p], _, h => h p (by simp)
  | p :: q :: t, _, h => by rw [joinC_sep 32 p (q :: t) (by simp)]; simp
theorem words_join (ws : List ByteArray) (h0 : ws ≠ []) (h : ∀ s ∈ ws, WordOk s) : wordsF (toI (joinC 32 (ws.map (·.data.toList)))) = (ws, 0) := by
  have hne : joinC 32 (ws.map (·.data.toList)) ≠ [] := join_ne _ (by simpa using h0) (fun p hp => by
    obtain ⟨s, hs, rfl⟩ := List.mem_map.1 hp
    exact (h s hs).1)
  have hw : wordsL (strOfNums (toI (joinC 32 (ws.map (·.data.toList))))) = ws := map_bytes_inj (by
    rw [words_map, str_toI, split_join _ (by simpa using h0) (fun p hp => by
      obtain ⟨s, hs, rfl⟩ := List.mem_map.1 hp
      exact (h s hs).2)])
  unfold wordsF
  rw [if_neg (by rw [toI_length]; exact fun e => hne (List.length_eq_zero_iff.1 e)), hw, if_neg]
  rw [Bool.not_eq_true, List.any_eq_false]
  intro s hs
  rw [list_bytes]
  simpa using (h s hs).1
theorem words_back (l : List Int) (ws : List ByteArray) (hb : ∀ c ∈ l, 0 ≤ c ∧ c < 256) (hne : ws ≠ []) (h : wordsF l = (ws, 0)) : l = toI (joinC 32 (ws.map (·.data.toList))) ∧ ∀ s ∈ ws, WordOk s := by
  unfold wordsF at h
  split at h
  · simp only [Prod.mk.injEq] at h
    exact absurd h.1.symm hne
  · split at h
    · simp at h
    · rename_i _ ha
      simp only [Prod.mk.injEq, and_true] at h
      subst h
      obtain ⟨_, h1, h2⟩ := pieces_back 32 (strOfNums l).data.toList
      rw [← words_map] at h1 h2
      refine ⟨by rw [h1, toI_str l hb], fun s hs => ⟨?_, h2 _ (List.mem_map.2 ⟨s, hs, rfl⟩)⟩⟩
      rw [Bool.not_eq_true, List.any_eq_false] at ha
      have := ha s hs
      rw [list_bytes] at this
      simpa using this
/-- A line of words. -/
def headOf (ws : List ByteArray) : List Int := toI (joinC 32 (ws.map (·.data.toList))) ++ [10]
theorem join_mem (c : UInt8) : ∀ (ps : List (List UInt8)), c ∈ joinC 32 ps → c = 32 ∨ ∃ p ∈ ps, c ∈ p
  | [], h => by simp [joinC] at h
  | [p], h => .inr ⟨p, by simp, h⟩
  | p :: q :: t, h => by
    rw [joinC_sep 32 p (q :: t) (by simp)] at h
    rcases List.mem_append.1 h with h | h
    · exact .inr ⟨p, by simp, h⟩
    · rcases List.mem_cons.1 h with h | h
      · exact .inl h
      · rcases join_mem c (q :: t) h with h | ⟨p', hp, hc⟩
        · exact .inl h
        · exact .inr ⟨p', by simp at hp ⊢; exact .inr hp, hc⟩
theorem mem_join (c : UInt8) : ∀ (ps : List (List UInt8)) (p : List UInt8), p ∈ ps → c ∈ p → c ∈ joinC 32 ps
  | [], p, h, _ => by simp at h
  | [q], p, h, hc => by obtain rfl : p = q := by simpa using h
                        exact hc
  | p' :: q :: t, p, h, hc => by
    rw [joinC_sep 32 p' (q :: t) (by simp)]
    rcases List.mem_cons.1 h with rfl | h
    · exact List.mem_append_left _ hc
    · exact List.mem_append_right _ (List.mem_cons_of_mem _ (mem_join c (q :: t) p h hc))
theorem store_words_fwd (ws : List ByteArray) (rest : List Int) (m : Nat) (hm : ws.length = m) (h0 : ws ≠ []) (h : ∀ s ∈ ws, WordOk s ∧ (10 : UInt8) ∉ s.data.toList) (hlen : (headOf ws ++ rest).length ≤ 1048576) : store_words.f (headOf ws ++ rest) (m : Int) = some (ws, rest, 0) := by
  have hl : lineF (headOf ws ++ rest) = (toI (joinC 32 (ws.map (·.data.toList))), rest, 0) := by
    unfold headOf
    rw [List.append_assoc]
    refine line_cut _ rest (fun c hc => ?_)
    unfold toI at hc
    obtain ⟨b, hb, rfl⟩ := List.mem_map.1 hc
    intro e
    have hb10 : b = 10 := UInt8.toNat_inj.1 (by have : (10 : UInt8).toNat = 10 := rfl; omega)
    subst hb10
    rcases join_mem 10 _ hb with h' | ⟨p, hp, hc'⟩
    · revert h'; decide
    · obtain ⟨s, hs, rfl⟩ := List.mem_map.1 hp
      exact (h s hs).2 hc'
  have hll : (toI (joinC 32 (ws.map (·.data.toList)))).length < 4294967281 := by
    unfold headOf at hlen
    simp only [List.length_append] at hlen
    omega
  unfold store_words.f lex_Line.f
  rw [if_pos (by omega), hl]
  simp only [Option.bind_some]
  unfold lex_Words.f
  rw [if_pos trivial, if_pos hll, words_join ws h0 (fun s hs => (h s hs).1)]
  simp [hm]
theorem store_words_back (b : List Int) (m : Nat) (hm : 0 < m) (ws : List ByteArray) (rest : List Int) (hb : ∀ c ∈ b, 0 ≤ c ∧ c < 256) (h : store_words.f b (m : Int) = some (ws, rest, 0)) :
    b = headOf ws ++ rest ∧ ws.length = m ∧ ∀ s ∈ ws, WordOk s ∧ (10 : UInt8) ∉ s.data.toList := by
  unfold store_words.f at h
  obtain ⟨⟨p, r, e⟩, h1, h⟩ := Option.bind_eq_some_iff.1 h
  unfold lex_Line.f at h1
  split at h1
  · have h1' := Option.some.inj h1
    simp only at h
    split at h
    · rename_i he
      obtain ⟨hl, hp⟩ := line_back he h1'
      obtain ⟨⟨ws', e'⟩, h2, h⟩ := Option.bind_eq_some_iff.1 h
      unfold lex_Words.f at h2
      split at h2
      · have h2' := Option.some.inj h2
        simp only at h
        split at h
        · rename_i he'
          subst he'
          split at h
          · rename_i hlen
            simp only [Option.some.injEq, Prod.mk.injEq, and_true] at h
            obtain ⟨rfl, rfl⟩ := h
            have hlen' : ws'.length = m := by exact_mod_cast hlen
            have hbp : ∀ c ∈ p, 0 ≤ c ∧ c < 256 := fun c hc => hb c (by rw [hl]; exact List.mem_append_left _ hc)
            obtain ⟨h3, h4⟩ := words_back p ws' hbp (fun e => by subst e; simp at hlen'; omega) h2'
            refine ⟨?_, hlen', fun s hs => ⟨h4 s hs, fun hc => ?_⟩⟩
            · unfold headOf
              rw [← h3, hl]
              simp
            · refine hp 10 ?_ rfl
              rw [h3]
              unfold toI
              exact List.mem_map.2 ⟨10, mem_join 10 _ _ (List.mem_map.2 ⟨s, hs, rfl⟩) hc, rfl⟩
          · simp at h
        · simp at h
      · cases h2
    · simp at h
  · cases h1
end Go.Proofs.YtfnahihdkbgleaaGreatDoor.Z

namespace Go.Proofs.YtfnahihdkbgleaaGreatDoor.Z
open Go.RowKit Go.Proofs.YtfnahihdkbgleaaGreatDoorW.PrintWords
set_option linter.unusedVariables false
def noIt : It := ⟨0, ⟨#[]⟩, []⟩
/-- What item answers: the words of the first line, the two numbers, the bytes. -/
def itemF (b : List Int) : It × List Int × Int :=
  match store_words.f b 3 with
  | some (ws, rest, e) =>
    if e = 0 then
      (if (numF (ws.getD 0 ⟨#[]⟩) 4).2 = 0 ∧ (numF (ws.getD 2 ⟨#[]⟩) 1048576).2 = 0 ∧ (numF (ws.getD 2 ⟨#[]⟩) 1048576).1 < rest.length ∧ rest.getD (numF (ws.getD 2 ⟨#[]⟩) 1048576).1.toNat 0 = 10 then
        (if fineB ⟨(numF (ws.getD 0 ⟨#[]⟩) 4).1, ws.getD 1 ⟨#[]⟩, rest.take (numF (ws.getD 2 ⟨#[]⟩) 1048576).1.toNat⟩ then
          (⟨(numF (ws.getD 0 ⟨#[]⟩) 4).1, ws.getD 1 ⟨#[]⟩, rest.take (numF (ws.getD 2 ⟨#[]⟩) 1048576).1.toNat⟩, rest.drop ((numF (ws.getD 2 ⟨#[]⟩) 1048576).1.toNat + 1), 0) else (noIt, [], 5))
      else (noIt, [], 5))
    else (noIt, [], e)
  | none => (noIt, [], 5)
/-- The items that come, so many. -/
def getLoop : Nat → List It → List Int → List It × Int
  | 0, l, b => if 0 < b.length then ([], 5) else (l, 0)
  | m + 1, l, b => if (itemF b).2.2 ≠ 0 then ([], (itemF b).2.2) else if hasB l (itemF b).1.f1 then ([], 8) else getLoop m (l ++ [(itemF b).1]) (itemF b).2.1
def inq : ByteArray := ⟨#[105, 110, 113, 117, 101, 115, 116]⟩
def headF (b : List Int) : List It × Int :=
  match store_words.f b 2 with
  | some (ws, rest, e) => if e ≠ 0 then ([], 5) else if (ws.getD 0 ⟨#[]⟩).toList ≠ inq.toList then ([], 5) else if (numF (ws.getD 1 ⟨#[]⟩) 256).2 ≠ 0 then ([], (numF (ws.getD 1 ⟨#[]⟩) 256).2) else getLoop (numF (ws.getD 1 ⟨#[]⟩) 256).1.toNat [] rest
  | none => ([], 5)
def getF (b : List Int) : List It × Int := if 1048576 < b.length then ([], 3) else if (bodyF b).2 ≠ 0 then ([], (bodyF b).2) else headF (bodyF b).1
theorem store_words_some (b : List Int) (hlen : b.length ≤ 1048576) (m : Int) : ∃ ws rest e, store_words.f b m = some (ws, rest, e) ∧ (e = 0 ∨ (e = 5 ∧ ws = [] ∧ rest = [])) := by
  unfold store_words.f lex_Line.f
  rw [if_pos (by omega)]
  simp only [Option.bind_some]
  split
  · have hl : (lineF b).1.length < 4294967281 := by
      unfold lineF
      split
      · simp
      · simp only [List.length_take]; omega
    unfold lex_Words.f
    rw [if_pos hl]
    simp only [Option.bind_some]
    split
    · split
      · exact ⟨_, _, _, rfl, .inl rfl⟩
      · exact ⟨_, _, _, rfl, .inr ⟨rfl, rfl, rfl⟩⟩
    · exact ⟨_, _, _, rfl, .inr ⟨rfl, rfl, rfl⟩⟩
  · exact ⟨_, _, _, rfl, .inr ⟨rfl, rfl, rfl⟩⟩
theorem join_len : ∀ (ps : List (List UInt8)) (p : List UInt8), p ∈ ps → p.length ≤ (joinC 32 ps).length
  | [], p, h => by simp at h
  | [q], p, h => by obtain rfl : p = q := by simpa using h
                    exact Nat.le_refl _
  | p' :: q :: t, p, h => by
    rw [joinC_sep 32 p' (q :: t) (by simp), List.length_append, List.length_cons]
    rcases List.mem_cons.1 h with rfl | h
    · omega
    · have := join_len (q :: t) p h
      omega
theorem head_len (ws : List ByteArray) (s : ByteArray) (h : s ∈ ws) : s.size ≤ (headOf ws).length := by
  unfold headOf
  rw [List.length_append, toI_length, ← size_list]
  have := join_len _ _ (List.mem_map.2 ⟨s, h, rfl⟩ : s.data.toList ∈ ws.map (·.data.toList))
  omega
end Go.Proofs.YtfnahihdkbgleaaGreatDoor.Z
