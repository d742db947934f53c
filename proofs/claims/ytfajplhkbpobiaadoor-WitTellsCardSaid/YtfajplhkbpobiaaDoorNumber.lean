/- lex.Number in the printed form. -/
import Derived.Test.YtfajplhkbpobiaaDoorZ0
import Derived.Test.YtfajplhkbpobiaaDoorShelf
import Derived.Shelf.Strings.SlTrimAscii
namespace Go.Proofs.YtfajplhkbpobiaaDoor.Z
set_option linter.unusedVariables false
open Go.RowKit Go.Proofs.YtfajplhkbpobiaaDoorW.PrintWords
def digitsS : ByteArray := ⟨#[48, 49, 50, 51, 52, 53, 54, 55, 56, 57]⟩
def digitB (b : UInt8) : Bool := decide (48 ≤ b.toNat) && decide (b.toNat ≤ 57)
theorem digits_contains (b : UInt8) : digitsS.data.toList.contains b = digitB b := by
  have h : ∀ n : Fin 256, digitsS.data.toList.contains (UInt8.ofNat n.val) = digitB (UInt8.ofNat n.val) := by decide +kernel
  have := h ⟨b.toNat, b.toNat_lt⟩
  simpa using this
theorem dropWhile_nil {α : Type} {p : α → Bool} {l : List α} : l.dropWhile p = [] ↔ l.all p = true := by
  induction l with
  | nil => simp
  | cons a l ih =>
    rw [List.dropWhile_cons, List.all_cons]
    cases h : p a
    · simp
    · simpa using ih
theorem trim_nil (l : List UInt8) : Lib.trimS l digitsS.data.toList = [] ↔ l.all digitB = true := by
  have hp : (fun b => digitsS.data.toList.contains b) = digitB := funext digits_contains
  have e : Lib.trimS l digitsS.data.toList = ((l.reverse.dropWhile digitB).reverse).dropWhile digitB := by
    unfold Lib.trimS Lib.trimLeftS Lib.trimRightS
    rw [hp]
  rw [e, dropWhile_nil, List.all_reverse]
  constructor
  · intro h
    rw [← List.all_reverse]
    cases hd : l.reverse.dropWhile digitB with
    | nil => exact dropWhile_nil.1 hd
    | cons a r =>
      have hh := List.head?_dropWhile_not digitB l.reverse
      rw [hd] at hh h
      rw [List.all_cons] at h
      simp at hh h
      rw [hh] at h
      cases h.1
  · intro h
    rw [← List.all_reverse] at h
    rw [dropWhile_nil.2 h]
    rfl
/-- What digits spell. -/
def spell (acc : Nat) : List UInt8 → Nat
  | [] => acc
  | c :: r => spell (acc * 10 + (c.toNat - 48)) r
theorem spell_ge (l : List UInt8) : ∀ acc, acc ≤ spell acc l := by
  induction l with
  | nil => exact fun acc => Nat.le_refl _
  | cons c r ih => exact fun acc => Nat.le_trans (by omega) (ih _)
theorem parse_digits (M : Nat) (hM : M < 1844674407370955162) : ∀ (l : List UInt8) (acc : Nat), l.all digitB = true → acc ≤ M →
    Lib.parseUintM M acc l = if spell acc l ≤ M then .ok (spell acc l) else .range
  | [], acc, _, ha => by
    unfold Lib.parseUintM spell
    rw [if_pos ha]
  | c :: r, acc, h, ha => by
    rw [List.all_cons, Bool.and_eq_true] at h
    have hc := h.1
    unfold digitB at hc
    simp only [Bool.and_eq_true, decide_eq_true_eq] at hc
    unfold Lib.parseUintM spell
    rw [if_pos hc, if_neg (by omega)]
    by_cases h2 : M < acc * 10 + (c.toNat - 48)
    · rw [if_pos h2, if_neg]
      have := spell_ge r (acc * 10 + (c.toNat - 48))
      omega
    · rw [if_neg h2]
      exact parse_digits M hM r _ h.2 (by omega)
/-- Is it a number's numeral? -/
def numeralB (l : List UInt8) : Bool := decide (l ≠ []) && !(decide (1 < l.length) && decide (l.head? = some 48)) && l.all digitB
def numF (s : ByteArray) (most : Int) : Int × Int := if numeralB s.data.toList then (if (spell 0 s.data.toList : Int) ≤ most then ((spell 0 s.data.toList : Int), 0) else (0, 3)) else (0, 5)
theorem trim_calls (s : ByteArray) (w : World) (hs : s.size ≤ 9223372036854775807) :
    Calls Tryd.prog 40 #[.string s, .string digitsS] w fun e w' => e = .returned (.string ⟨(Lib.trimS s.data.toList digitsS.data.toList).toArray⟩) ∧ Below w.heap.size w w' :=
  Any.strings_Trim_laid Tryd.lays160 (by kernel_rfl) s digitsS w hs (by decide) (by
    intro j b h
    have : ∀ b ∈ digitsS.data.toList, b.toNat < 128 := by decide
    exact this b (List.mem_of_getElem? h))
set_option maxHeartbeats 1600000 in
set_option maxRecDepth 100000 in
theorem number_empty (s : ByteArray) (most : Int) (w : World) (h : (s.toList == []) = true) :
    Calls Tryd.prog 36 #[.string s, .int .u32 most] w fun e w' => e = .returned (.tuple #[.int .u32 0, .int .i64 5]) ∧ Below w.heap.size w w' := by
  go_enter Tryd.func36, Tryd.ntmps36
  go_wp2
  go_ret2
  exact ⟨rfl, Below.refl _ _⟩
set_option maxHeartbeats 1600000 in
set_option maxRecDepth 100000 in
theorem number_zero (s : ByteArray) (most : Int) (w : World) (h : (s.toList == []) = false) (h1 : 1 < (s.size : Int)) (hp : 0 < s.size) (h0 : (((s[0]'hp).toNat : Int) == 48) = true) :
    Calls Tryd.prog 36 #[.string s, .int .u32 most] w fun e w' => e = .returned (.tuple #[.int .u32 0, .int .i64 5]) ∧ Below w.heap.size w w' := by
  go_enter Tryd.func36, Tryd.ntmps36
  go_wp2_with fail
  go_ret2
  exact ⟨rfl, Below.refl _ _⟩
set_option maxHeartbeats 1600000 in
set_option maxRecDepth 100000 in
theorem number_odd (s : ByteArray) (most : Int) (w : World) (h : (s.toList == []) = false) (h1 : ¬ 1 < (s.size : Int) ∨ (1 < (s.size : Int) ∧ ∃ hp : 0 < s.size, (((s[0]'hp).toNat : Int) == 48) = false)) (t : ByteArray)
    (ht : ∀ w, Calls Tryd.prog 40 #[.string s, .string digitsS] w fun e w' => e = .returned (.string t) ∧ Below w.heap.size w w') (hn : (t.toList == []) = false) :
    Calls Tryd.prog 36 #[.string s, .int .u32 most] w fun e w' => e = .returned (.tuple #[.int .u32 0, .int .i64 5]) ∧ Below w.heap.size w w' := by
  have hn' : (t.toList != []) = true := by rw [bne, hn]; rfl
  have HT := Lib.hid ht
  clear ht
  rcases h1 with h1 | ⟨h1, hp, h0⟩
  all_goals
    go_enter Tryd.func36, Tryd.ntmps36
    go_wp2_with (go_at_call 40; refine (HT.out _).mono ?_; rintro e w1 ⟨rfl, hb1⟩)
    go_ret2
    exact ⟨rfl, by assumption⟩
set_option maxHeartbeats 1600000 in
set_option maxRecDepth 100000 in
theorem number_ok (s : ByteArray) (most u : Int) (w : World) (hu : 0 ≤ u ∧ u ≤ 4294967295) (h : (s.toList == []) = false) (h1 : ¬ 1 < (s.size : Int) ∨ (1 < (s.size : Int) ∧ ∃ hp : 0 < s.size, (((s[0]'hp).toNat : Int) == 48) = false)) (t : ByteArray)
    (ht : ∀ w, Calls Tryd.prog 40 #[.string s, .string digitsS] w fun e w' => e = .returned (.string t) ∧ Below w.heap.size w w') (hn : (t.toList == []) = true)
    (hpu : ∀ w1, Below w.heap.size w w1 → Calls Tryd.prog 41 #[.string s, .int .i64 10, .int .i64 32] w1 fun e w' => e = .returned (.tuple #[.int .u64 u, .nilIface]) ∧ Below w1.heap.size w1 w') :
    Calls Tryd.prog 36 #[.string s, .int .u32 most] w fun e w' => e = .returned (.tuple (if u ≤ most then #[.int .u32 u, .int .i64 0] else #[.int .u32 0, .int .i64 3])) ∧ Below w.heap.size w w' := by
  have hn' : (t.toList != []) = false := by rw [bne, hn]; rfl
  have hwu : IntKind.u32.wrap u = u := by rw [IntKind.wrap_u32]; omega
  have HT := Lib.hid ht
  have HP := Lib.hid hpu
  clear ht hpu
  rcases h1 with h1 | ⟨h1, hp, h0⟩
  all_goals
    by_cases hm : u ≤ most
    · have hm' : ¬ most < u := by omega
      go_enter Tryd.func36, Tryd.ntmps36
      go_wp2_with fail
      refine (HT.out _).mono ?_
      rintro e w1 ⟨rfl, hb1⟩
      have HB1 := Lib.hid hb1
      clear hb1
      go_wp2_with fail
      refine (HP.out _ HB1.out).mono ?_
      rintro e w2 ⟨rfl, hb2⟩
      have HB2 := Lib.hid (below_step HB1.out hb2)
      clear hb2
      go_wp2_with fail
      go_ret2
      exact ⟨rfl, HB2.out⟩
    · have hm' : most < u := by omega
      go_enter Tryd.func36, Tryd.ntmps36
      go_wp2_with fail
      refine (HT.out _).mono ?_
      rintro e w1 ⟨rfl, hb1⟩
      have HB1 := Lib.hid hb1
      clear hb1
      go_wp2_with fail
      refine (HP.out _ HB1.out).mono ?_
      rintro e w2 ⟨rfl, hb2⟩
      have HB2 := Lib.hid (below_step HB1.out hb2)
      clear hb2
      go_wp2_with fail
      go_ret2
      exact ⟨rfl, HB2.out⟩
set_option maxHeartbeats 1600000 in
set_option maxRecDepth 100000 in
theorem number_err (s : ByteArray) (most u : Int) (w : World) (h : (s.toList == []) = false) (h1 : ¬ 1 < (s.size : Int) ∨ (1 < (s.size : Int) ∧ ∃ hp : 0 < s.size, (((s[0]'hp).toNat : Int) == 48) = false)) (t : ByteArray)
    (ht : ∀ w, Calls Tryd.prog 40 #[.string s, .string digitsS] w fun e w' => e = .returned (.string t) ∧ Below w.heap.size w w') (hn : (t.toList == []) = true)
    (hpu : ∀ w1, Below w.heap.size w w1 → Calls Tryd.prog 41 #[.string s, .int .i64 10, .int .i64 32] w1 fun e w' => (∃ te pe, e = .returned (.tuple #[.int .u64 u, .iface te pe])) ∧ Below w1.heap.size w1 w') :
    Calls Tryd.prog 36 #[.string s, .int .u32 most] w fun e w' => e = .returned (.tuple #[.int .u32 0, .int .i64 3]) ∧ Below w.heap.size w w' := by
  have hn' : (t.toList != []) = false := by rw [bne, hn]; rfl
  have HT := Lib.hid ht
  have HP := Lib.hid hpu
  clear ht hpu
  rcases h1 with h1 | ⟨h1, hp, h0⟩
  all_goals
    go_enter Tryd.func36, Tryd.ntmps36
    go_wp2_with fail
    refine (HT.out _).mono ?_
    rintro e w1 ⟨rfl, hb1⟩
    have HB1 := Lib.hid hb1
    clear hb1
    go_wp2_with fail
    refine (HP.out _ HB1.out).mono ?_
    rintro e w2 ⟨⟨te, pe, rfl⟩, hb2⟩
    have HB2 := Lib.hid (below_step HB1.out hb2)
    clear hb2
    go_wp2_with fail
    go_ret2
    exact ⟨rfl, HB2.out⟩
theorem size_list (s : ByteArray) : s.data.toList.length = s.size := Array.length_toList
theorem list_bytes (s : ByteArray) : (s.toList == []) = decide (s.data.toList = []) := by
  have h : ∀ (d i : Nat) (r : List UInt8), i + d = s.size → (ByteArray.toList.loop s i r).length = r.length + d := by
    intro d
    induction d with
    | zero =>
      intro i r h
      unfold ByteArray.toList.loop
      rw [if_neg (by omega), List.length_reverse]
      rfl
    | succ d ih =>
      intro i r h
      unfold ByteArray.toList.loop
      rw [if_pos (by omega), ih (i + 1) _ (by omega), List.length_cons]
      omega
  have hl : s.toList.length = s.size := by
    unfold ByteArray.toList
    rw [h s.size 0 [] (by omega)]
    simp
  by_cases h0 : s.size = 0
  · rw [List.length_eq_zero_iff.1 (hl.trans h0), List.length_eq_zero_iff.1 ((size_list s).trans h0)]
    rfl
  · have h1 : s.toList ≠ [] := fun e => h0 (by rw [← hl, e]; rfl)
    have h2 : s.data.toList ≠ [] := fun e => h0 (by rw [← size_list s, e]; rfl)
    rw [decide_eq_false h2, beq_eq_false_iff_ne.2 h1]
theorem number_calls (s : ByteArray) (most : Int) (hm : most ≤ 4294967295) (hs : s.size ≤ 281474976710656) (w : World) (hG : Gl w) :
    Calls Tryd.prog 36 #[.string s, .int .u32 most] w fun e w' => e = .returned (.tuple #[.int .u32 (numF s most).1, .int .i64 (numF s most).2]) ∧ Below w.heap.size w w' := by
  by_cases he : s.data.toList = []
  · have e1 : numF s most = (0, 5) := by unfold numF numeralB; simp [he]
    rw [e1]
    exact number_empty s most w (by rw [list_bytes, decide_eq_true he])
  have hne : (s.toList == []) = false := by rw [list_bytes, decide_eq_false he]
  have hp : 0 < s.size := by
    rw [← size_list]
    exact List.length_pos_iff.2 he
  have hhd : s.data.toList.head? = some (s[0]'hp) := by
    rw [List.head?_eq_getElem?]
    have h2 : 0 < s.data.size := hp
    rw [Array.getElem?_toList]
    exact Array.getElem?_eq_getElem h2
  have hq : (((s[0]'hp).toNat : Int) == 48) = decide (s.data.toList.head? = some 48) := by
    rw [hhd]
    by_cases h : s[0]'hp = 48
    · rw [h]; rfl
    · rw [decide_eq_false (fun e => h (Option.some.inj e))]
      refine beq_eq_false_iff_ne.2 (fun e => h ?_)
      have : (s[0]'hp).toNat = 48 := by omega
      exact UInt8.toNat_inj.1 this
  by_cases hz : 1 < s.size ∧ s.data.toList.head? = some 48
  · have e1 : numF s most = (0, 5) := by
      unfold numF numeralB
      rw [decide_eq_true hz.2, size_list, decide_eq_true hz.1]
      simp
    rw [e1]
    exact number_zero s most w hne (by omega) hp (by rw [hq, decide_eq_true hz.2])
  have h1 : ¬ 1 < (s.size : Int) ∨ (1 < (s.size : Int) ∧ ∃ hp : 0 < s.size, (((s[0]'hp).toNat : Int) == 48) = false) := by
    by_cases h2 : 1 < s.size
    · exact .inr ⟨by omega, hp, by rw [hq, decide_eq_false (fun h => hz ⟨h2, h⟩)]⟩
    · exact .inl (by omega)
  have hnb : numeralB s.data.toList = s.data.toList.all digitB := by
    unfold numeralB
    rw [decide_eq_true he, size_list]
    by_cases h2 : 1 < s.size
    · rw [decide_eq_false (fun h => hz ⟨h2, h⟩)]; simp
    · rw [decide_eq_false h2]; simp
  have ht := fun w => trim_calls s w (by omega)
  cases ha : s.data.toList.all digitB
  · have e1 : numF s most = (0, 5) := by unfold numF; rw [hnb, ha]; rfl
    rw [e1]
    refine number_odd s most w hne h1 _ ht ?_
    rw [list_bytes, decide_eq_false]
    intro e
    have := trim_nil s.data.toList
    rw [ha] at this
    exact absurd (this.1 (by simpa using e)) (by decide)
  · have hn : ((⟨(Lib.trimS s.data.toList digitsS.data.toList).toArray⟩ : ByteArray).toList == []) = true := by
      rw [list_bytes, decide_eq_true]
      have := (trim_nil s.data.toList).2 ha
      simpa using this
    have hpz := parse_digits (2 ^ 32 - 1) (by decide) s.data.toList 0 ha (by decide)
    have hpu : Lib.parseUintB 32 s.data.toList = if spell 0 s.data.toList ≤ 2 ^ 32 - 1 then .ok (spell 0 s.data.toList) else .range := by
      unfold Lib.parseUintB
      rw [if_neg he, hpz]
    by_cases hv : spell 0 s.data.toList ≤ 2 ^ 32 - 1
    · rw [if_pos hv] at hpu
      have e1 : numF s most = if (spell 0 s.data.toList : Int) ≤ most then ((spell 0 s.data.toList : Int), 0) else (0, 3) := by unfold numF; rw [hnb, ha]; rfl
      have hc := number_ok s most (spell 0 s.data.toList : Int) w ⟨by omega, by omega⟩ hne h1 _ ht hn (fun w1 hb => (Tryd.strconv_ParseUint_10_at32_ok s (by omega) _ hpu w1).mono fun e w2 ⟨h1, h2⟩ => ⟨h1, by
        rcases h2 with rfl | rfl
        · exact Below.refl _ _
        · exact Joins.below_bytesWorld _ _ _ _ (Nat.le_refl _)⟩)
      rw [e1]
      by_cases hle : (spell 0 s.data.toList : Int) ≤ most
      · rw [if_pos hle] at hc
        rw [if_pos hle]; exact hc
      · rw [if_neg hle] at hc
        rw [if_neg hle]; exact hc
    · rw [if_neg hv] at hpu
      have e1 : numF s most = (0, 3) := by unfold numF; rw [hnb, ha, if_pos rfl, if_neg (by omega)]
      rw [e1]
      refine number_err s most 4294967295 w hne h1 _ ht hn (fun w1 hb => ?_)
      obtain ⟨te, pe, hrng⟩ := (Gl.below hb hG).rng
      refine (Tryd.strconv_ParseUint_10_at32_range s hs hpu _ w1 hrng (.inr ⟨te, pe, rfl⟩)).mono ?_
      rintro e w2 ⟨N, rfl, _, _, hb2⟩
      exact ⟨⟨_, _, rfl⟩, hb2⟩
def lex_Number.f (a0 : ByteArray) (a1 : Int) : Option (Int × Int) := if a0.size ≤ 281474976710656 ∧ a1 ≤ 4294967295 then some (numF a0 a1) else none
theorem lex_Number.calls (a0 : ByteArray) (a1 r1 r2 : Int) (w : World) (hgl : Gl w) (h : lex_Number.f a0 a1 = some (r1, r2)) :
    Calls Tryd.prog 36 #[.string a0, .int .u32 a1] w fun e w' => e = .returned (.tuple #[.int .u32 r1, .int .i64 r2]) ∧ Below w.heap.size w w' := by
  unfold lex_Number.f at h
  split at h
  · rename_i hle
    have h' := Option.some.inj h
    have hh := number_calls a0 a1 hle.2 hle.1 w hgl
    rw [h'] at hh
    exact hh
  · cases h
end Go.Proofs.YtfajplhkbpobiaaDoor.Z
