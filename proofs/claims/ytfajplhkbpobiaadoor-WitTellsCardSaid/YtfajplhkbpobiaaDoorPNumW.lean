/- Plain laws: numerals and lines (as in the store's seat). -/
import Derived.Test.YtfajplhkbpobiaaDoorLex
import Derived.Test.YtfajplhkbpobiaaDoorNumber
import Derived.Test.YtfajplhkbpobiaaDoorWrite
namespace Go.Proofs.YtfajplhkbpobiaaDoor.Z
open Go.RowKit
set_option linter.unusedVariables false
theorem spell_snoc (l : List UInt8) (d : UInt8) : ∀ acc, spell acc (l ++ [d]) = spell acc l * 10 + (d.toNat - 48) := by
  induction l with
  | nil => intro acc; rfl
  | cons c r ih => intro acc; exact ih _
theorem dig_nat {n : Nat} (h : n < 10) : (UInt8.ofNat (48 + n)).toNat = 48 + n := by
  rw [UInt8.toNat_ofNat']
  omega
theorem dig_B {n : Nat} (h : n < 10) : digitB (UInt8.ofNat (48 + n)) = true := by
  unfold digitB
  rw [dig_nat h]
  simp
  omega
theorem head_app {α : Type} {l : List α} (m : List α) (h : l ≠ []) : (l ++ m).head? = l.head? := by
  cases l with
  | nil => exact absurd rfl h
  | cons a t => rfl
theorem dig_all {n : Nat} (h : n < 10) : [UInt8.ofNat (48 + n)].all digitB = true := by
  show (digitB (UInt8.ofNat (48 + n)) && true) = true
  rw [dig_B h]; rfl
theorem dec_small {u : Nat} (h : u < 10) : Lib.decDigits u = [UInt8.ofNat (48 + u)] := by rw [Lib.decDigits, dif_pos h]
theorem dec_great {u : Nat} (h : ¬ u < 10) : Lib.decDigits u = Lib.decDigits (u / 10) ++ [UInt8.ofNat (48 + u % 10)] := by rw [Lib.decDigits, dif_neg h]
theorem dec_laws (u : Nat) : (Lib.decDigits u).all digitB = true ∧ spell 0 (Lib.decDigits u) = u ∧ Lib.decDigits u ≠ [] ∧ (1 ≤ u → (Lib.decDigits u).head? ≠ some 48) ∧ (u < 10 → (Lib.decDigits u).length = 1) := by
  induction u using Nat.strongRecOn with
  | _ u ih =>
    by_cases h : u < 10
    · rw [dec_small h]
      refine ⟨dig_all h, ?_, by simp, ?_, by simp⟩
      · show 0 * 10 + ((UInt8.ofNat (48 + u)).toNat - 48) = u
        rw [dig_nat h]
        omega
      · intro h1 e
        have := congrArg (fun o : Option UInt8 => o.map UInt8.toNat) e
        simp only [List.head?_cons, Option.map_some, dig_nat h] at this
        have h2 := Option.some.inj this
        have : (48 : UInt8).toNat = 48 := rfl
        omega
    · obtain ⟨a, b, c, d, _⟩ := ih (u / 10) (by omega)
      rw [dec_great h]
      refine ⟨by rw [List.all_append, a, dig_all (Nat.mod_lt u (by omega))]; rfl, ?_, by simp, ?_, fun h' => absurd h' h⟩
      · rw [spell_snoc, b, dig_nat (Nat.mod_lt u (by omega))]
        omega
      · intro _
        rw [head_app _ c]
        exact d (by omega)
theorem numeral_dec (u : Nat) : numeralB (Lib.decDigits u) = true := by
  obtain ⟨a, b, c, d, e⟩ := dec_laws u
  unfold numeralB
  rw [a]
  simp only [Bool.and_true, Bool.and_eq_true, decide_eq_true_eq, Bool.not_eq_true', Bool.and_eq_false_iff, decide_eq_false_iff_not]
  refine ⟨c, ?_⟩
  by_cases h : u < 10
  · left
    rw [e h]
    omega
  · right
    exact d (by omega)
theorem dec_of_spell : ∀ (n : Nat) (l : List UInt8), l.length = n → numeralB l = true → l = Lib.decDigits (spell 0 l) := by
  intro n
  induction n with
  | zero =>
    intro l hl h
    unfold numeralB at h
    obtain rfl := List.length_eq_zero_iff.1 hl
    simp at h
  | succ n ih =>
    intro l hl h
    have hd : ∀ d : UInt8, digitB d = true → 48 ≤ d.toNat ∧ d.toNat ≤ 57 := by
      intro d h
      unfold digitB at h
      simpa using h
    unfold numeralB at h
    simp only [Bool.and_eq_true, decide_eq_true_eq, Bool.not_eq_true', Bool.and_eq_false_iff, decide_eq_false_iff_not] at h
    obtain ⟨⟨h0, h1⟩, h2⟩ := h
    obtain ⟨m, d, rfl⟩ : ∃ m d, l = m ++ [d] := ⟨l.dropLast, l.getLast h0, (List.dropLast_concat_getLast h0).symm⟩
    rw [List.all_append, Bool.and_eq_true] at h2
    have hdd := hd d (by simpa using h2.2)
    rw [spell_snoc]
    by_cases hm : m = []
    · subst hm
      show [d] = Lib.decDigits (0 * 10 + (d.toNat - 48))
      rw [dec_small (by omega), show 48 + (0 * 10 + (d.toNat - 48)) = d.toNat by omega, UInt8.ofNat_toNat]
    · have hml : 1 ≤ m.length := by
        rcases Nat.eq_zero_or_pos m.length with e | e
        · exact absurd (List.length_eq_zero_iff.1 e) hm
        · exact e
      have hh : m.head? ≠ some 48 := by
        rcases h1 with h1 | h1
        · rw [List.length_append, List.length_singleton] at h1; omega
        · rwa [head_app _ hm] at h1
      have hnm : numeralB m = true := by
        unfold numeralB
        simp [hm, h2.1, hh]
      have hmm := ih m (by simpa using hl) hnm
      have hge : 1 ≤ spell 0 m := by
        cases m with
        | nil => exact absurd rfl hm
        | cons c t =>
          have hc := hd c (by have := h2.1; rw [List.all_cons, Bool.and_eq_true] at this; exact this.1)
          have hc48 : c.toNat ≠ 48 := fun e => hh (by
            have : c = 48 := UInt8.toNat_inj.1 e
            rw [this]; rfl)
          have := spell_ge t (0 * 10 + (c.toNat - 48))
          show 1 ≤ spell (0 * 10 + (c.toNat - 48)) t
          omega
      rw [dec_great (by omega), show (spell 0 m * 10 + (d.toNat - 48)) / 10 = spell 0 m by omega, show (spell 0 m * 10 + (d.toNat - 48)) % 10 = d.toNat - 48 by omega, ← hmm, show 48 + (d.toNat - 48) = d.toNat by omega, UInt8.ofNat_toNat]
theorem itoa_nat (u : Nat) : Lib.itoa (u : Int) = Lib.decDigits u := by unfold Lib.itoa; rw [if_neg (by omega)]; simp
theorem numF_itoa (s : ByteArray) (m : Int) (u : Nat) (hs : s.data.toList = Lib.itoa (u : Int)) (hm : (u : Int) ≤ m) : numF s m = ((u : Int), 0) := by
  obtain ⟨a, b, _⟩ := dec_laws u
  unfold numF
  rw [hs, itoa_nat, numeral_dec, if_pos rfl, b, if_pos hm]
theorem numF_back (s : ByteArray) (m : Int) (h : (numF s m).2 = 0) : ∃ u : Nat, (numF s m).1 = (u : Int) ∧ (u : Int) ≤ m ∧ s.data.toList = Lib.itoa (u : Int) := by
  unfold numF at h ⊢
  split at h
  · rename_i h1
    split at h
    · rename_i h2
      rw [if_pos h1, if_pos h2]
      exact ⟨_, rfl, h2, by rw [itoa_nat]; exact dec_of_spell _ _ rfl h1⟩
    · simp at h
  · simp at h
theorem itoa_mem (u : Nat) (c : UInt8) (h : c ∈ Lib.itoa (u : Int)) : digitB c = true := by
  rw [itoa_nat] at h
  exact List.all_eq_true.1 (dec_laws u).1 c h
theorem itoa_ne (u : Nat) : Lib.itoa (u : Int) ≠ [] := by rw [itoa_nat]; exact (dec_laws u).2.2.1
theorem line_cut (p r : List Int) (h : ∀ c ∈ p, c ≠ 10) : lineF (p ++ 10 :: r) = (p, r, 0) := by
  have hx : lineAt (p ++ 10 :: r) = some p.length := by
    refine line_some (by simp) (fun j hj => ?_) ?_
    · have : (p ++ 10 :: r).getD j 0 = p[j] := by simp [List.getD, List.getElem?_append_left hj, hj]
      rw [this]
      exact h _ (List.getElem_mem hj)
    · simp [List.getD]
  unfold lineF
  rw [hx]
  simp
theorem line_back {l p r : List Int} {e : Int} (he : e = 0) (h : lineF l = (p, r, e)) : l = p ++ 10 :: r ∧ ∀ c ∈ p, c ≠ 10 := by
  subst he
  unfold lineF at h
  split at h
  · simp at h
  · rename_i i hx
    unfold lineAt at hx
    rw [List.findIdx?_eq_some_iff_getElem] at hx
    obtain ⟨hi, h10, hlow⟩ := hx
    simp only [Prod.mk.injEq, and_true] at h
    obtain ⟨rfl, rfl⟩ := h
    have h10' : l[i] = 10 := by simpa using h10
    refine ⟨?_, fun c hc => ?_⟩
    · rw [← h10', List.getElem_cons_drop, List.take_append_drop]
    · obtain ⟨j, hj, rfl⟩ := List.mem_iff_getElem.1 hc
      rw [List.length_take] at hj
      have := hlow j (by omega)
      rw [List.getElem_take]
      simpa using this
theorem bytes_ext {a b : ByteArray} (h : a.data.toList = b.data.toList) : a = b := by
  cases a; cases b
  exact congrArg ByteArray.mk (Array.ext' h)
theorem str_toI (l : List UInt8) : (strOfNums (toI l)).data.toList = l := by
  rw [strOfNums_data]
  unfold toI
  rw [List.map_map]
  conv => rhs; rw [← List.map_id l]
  apply List.map_congr_left
  intro b _
  simp
theorem toI_str (l : List Int) (h : ∀ c ∈ l, 0 ≤ c ∧ c < 256) : toI (strOfNums l).data.toList = l := by
  rw [strOfNums_data]
  unfold toI
  rw [List.map_map]
  conv => rhs; rw [← List.map_id l]
  apply List.map_congr_left
  intro c hc
  have := h c hc
  simp
  omega
theorem toI_append (a b : List UInt8) : toI (a ++ b) = toI a ++ toI b := List.map_append
theorem toI_length (a : List UInt8) : (toI a).length = a.length := List.length_map _
end Go.Proofs.YtfajplhkbpobiaaDoor.Z
