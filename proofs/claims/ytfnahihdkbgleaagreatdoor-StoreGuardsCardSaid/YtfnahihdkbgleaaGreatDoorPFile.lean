/- Plain laws of the whole file: what is put is got; what is got is put as the same bytes. -/
import Derived.Test.YtfnahihdkbgleaaGreatDoorGetF
import Derived.Test.YtfnahihdkbgleaaGreatDoorMay
/- Plain laws of the store: what is put is got; what is got is put as the same bytes. -/
namespace Go.Proofs.YtfnahihdkbgleaaGreatDoor.Z
set_option linter.unusedVariables false
open Go.RowKit Go.Proofs.YtfnahihdkbgleaaGreatDoorW.PrintWords Go.Proofs.YtfnahihdkbgleaaGreatDoorW.PrintMore
theorem bytes_list (s : ByteArray) : s.toList = s.data.toList := ByteArray.toList_eq s
theorem great_loop (l : List S37) (hl : l.length ≤ 9223372036854775807) : ∀ (d i : Nat) (s : Int), i + d = l.length → ∃ b, Ev (fun k => inquestlaw37_great.l0 k l s (l.length : Int) (i : Int)) b ∧ (b = false → l.length ≤ 300)
  | 0, i, s, h => by
    obtain rfl : i = l.length := by omega
    by_cases hg : l.length > 300
    · refine ⟨true, Ev.step (f := fun _ => some true) (fun k => ?_) (Ev.now _), fun h => by cases h⟩
      simp only [inquestlaw37_great.l0]
      rw [if_neg (by omega), if_pos (by omega)]
    · refine ⟨decide (s > 20000), Ev.step (f := fun _ => some (decide (s > 20000))) (fun k => ?_) (Ev.now _), fun _ => by omega⟩
      simp only [inquestlaw37_great.l0]
      rw [if_neg (by omega), if_neg (by omega)]
  | d + 1, i, s, h => by
    obtain ⟨b, hb, hq⟩ := great_loop l hl d (i + 1) (wrap64 (s + (((rd_T37 l i).f2).length : Int))) (by omega)
    refine ⟨b, Ev.step (fun k => ?_) hb, hq⟩
    simp only [inquestlaw37_great.l0]
    have e1 : wrap64 ((i : Int) + 1) = ((i + 1 : Nat) : Int) := by unfold wrap64; omega
    rw [if_pos (by omega), if_pos (by omega), if_pos (by omega), e1]
theorem great_ev (l : List S37) (hl : l.length ≤ 9223372036854775807) : ∃ b, Ev (fun k => inquestlaw37_great.f k l) b ∧ (b = false → l.length ≤ 300) := great_loop l hl l.length 0 0 (by omega)
theorem bytes_same (a : List Int) : inquestref00_Bytes.f a a = some true := by
  unfold inquestref00_Bytes.f
  rw [beq_self_eq_true]
theorem has_iff (l : List It) (s : ByteArray) : hasB l s = true ↔ s.data.toList ∈ l.map itName := by
  unfold hasB itName
  rw [List.any_eq_true, List.mem_map]
  constructor
  · rintro ⟨y, hy, h⟩
    rw [beq_iff_eq, bytes_list, bytes_list] at h
    exact ⟨y, hy, h⟩
  · rintro ⟨y, hy, h⟩
    refine ⟨y, hy, ?_⟩
    rw [beq_iff_eq, bytes_list, bytes_list]
    exact h
theorem each_fine {l : List It} (h : eachB l = true) : ∀ y ∈ l, fineB y = true := by
  unfold eachB at h
  simp only [Bool.and_eq_true, List.all_eq_true] at h
  exact h.1
theorem each_nodup {l : List It} (h : eachB l = true) : (l.map itName).Nodup := by
  unfold eachB at h
  simp only [Bool.and_eq_true, decide_eq_true_eq] at h
  exact h.2
theorem fine_len {y : It} (h : fineB y = true) : y.f2.length ≤ 1048576 := by
  unfold fineB at h
  simp only [Bool.and_eq_true, decide_eq_true_eq] at h
  exact h.2
theorem fine_kind {y : It} (h : fineB y = true) : 1 ≤ y.f0 ∧ y.f0 ≤ 4 := by
  unfold fineB at h
  simp only [Bool.and_eq_true, decide_eq_true_eq] at h
  exact ⟨h.1.1.1, h.1.1.2⟩
theorem fine_name {y : It} (h : fineB y = true) : y.f1.size ≤ 64 := by
  unfold fineB namedB at h
  simp only [Bool.and_eq_true, decide_eq_true_eq] at h
  exact h.1.2.1.2
theorem size_le_file (l : List It) : sizeL l ≤ (fileL l).length := by
  have h : ∀ l : List It, sizeL l ≤ (itemsL l).length := by
    intro l
    induction l with
    | nil => simp [sizeL]
    | cons a l ih =>
      have e1 : itemsL (a :: l) = itemL a ++ itemsL l := rfl
      have e2 : sizeL (a :: l) = a.f2.length + sizeL l := rfl
      have e3 : a.f2.length ≤ (itemL a).length := by
        unfold itemL
        simp only [List.length_append]
        omega
      rw [e1, e2, List.length_append]
      omega
  have := h l
  unfold fileL bodyL
  simp only [List.length_append]
  omega
theorem may_parts {l : List It} (h : mayB l = true) : eachB l = true ∧ l.length ≤ 256 ∧ sizeL l ≤ 1048576 ∧ (fileL l).length ≤ 1048576 := by
  unfold mayB at h
  simp only [Bool.and_eq_true, decide_eq_true_eq] at h
  exact ⟨h.1.1.1, h.1.1.2, h.1.2, h.2⟩
theorem may_mk {l : List It} (h1 : eachB l = true) (h2 : l.length ≤ 256) (h3 : (fileL l).length ≤ 1048576) : mayB l = true := by
  unfold mayB
  rw [h1, decide_eq_true h2, decide_eq_true (Nat.le_trans (size_le_file l) h3), decide_eq_true h3]
  rfl
theorem sum_le (l : List It) (h : ∀ y ∈ l, y.f2.length ≤ 1048576) : sizeL l ≤ 1048576 * l.length := by
  induction l with
  | nil => simp [sizeL]
  | cons a l ih =>
    have e2 : sizeL (a :: l) = a.f2.length + sizeL l := rfl
    have h1 := h a List.mem_cons_self
    have h2 := ih (fun y hy => h y (List.mem_cons_of_mem _ hy))
    rw [e2, List.length_cons]
    omega
theorem file_fine_le (l : List It) (h : ∀ y ∈ l, fineB y = true) (hl : l.length ≤ 1000) : (fileL l).length ≤ 140737488355328 := by
  have h1 := items_le l h
  have h2 := Lib.itoa_length_le (l.length : Int) (by omega) (by omega)
  have h3 := sum_le l (fun y hy => fine_len (h y hy))
  unfold fileL
  rw [List.length_append, toI, List.length_map, last_length]
  unfold bodyL headL
  simp only [List.length_append, List.length_cons, List.length_nil, toI, List.length_map]
  omega
/-- A text as a string. -/
def strB (l : List UInt8) : ByteArray := ⟨l.toArray⟩
theorem strB_list (l : List UInt8) : (strB l).data.toList = l := rfl
theorem itemL_head (x : It) : itemL x = headOf [strB (Lib.itoa x.f0), x.f1, strB (Lib.itoa (x.f2.length : Int))] ++ (x.f2 ++ [10]) := by
  unfold itemL headOf itemHead
  simp [joinC, strB_list, toI]
theorem dig_no {c : UInt8} (h : digitB c = true) : c ≠ 32 ∧ c ≠ 10 := by
  unfold digitB at h
  simp only [Bool.and_eq_true, decide_eq_true_eq] at h
  refine ⟨fun e => ?_, fun e => ?_⟩ <;> (subst e; revert h; decide)
theorem itoa_word (u : Nat) : WordOk (strB (Lib.itoa (u : Int))) ∧ (10 : UInt8) ∉ (strB (Lib.itoa (u : Int))).data.toList := by
  refine ⟨⟨itoa_ne u, fun h => (dig_no (itoa_mem u _ h)).1 rfl⟩, fun h => (dig_no (itoa_mem u _ h)).2 rfl⟩
theorem name_word {s : ByteArray} (h : namedB s = true) : WordOk s ∧ (10 : UInt8) ∉ s.data.toList := ⟨⟨(named_bytes s h).1, (named_no s h).1⟩, (named_no s h).2⟩
theorem fine_named {x : It} (h : fineB x = true) : namedB x.f1 = true := by
  unfold fineB at h
  simp only [Bool.and_eq_true, decide_eq_true_eq] at h
  exact h.1.2
theorem itemF_fwd (x : It) (r : List Int) (h : fineB x = true) (hlen : (itemL x ++ r).length ≤ 1048576) : itemF (itemL x ++ r) = (x, r, 0) := by
  obtain ⟨hk1, hk4⟩ := fine_kind h
  obtain ⟨u, hu⟩ : ∃ u : Nat, x.f0 = (u : Int) := ⟨x.f0.toNat, by omega⟩
  have hl := fine_len h
  have e : itemL x ++ r = headOf [strB (Lib.itoa x.f0), x.f1, strB (Lib.itoa (x.f2.length : Int))] ++ (x.f2 ++ 10 :: r) := by
    rw [itemL_head]
    simp
  have hw : store_words.f (itemL x ++ r) ((3 : Nat) : Int) = some ([strB (Lib.itoa x.f0), x.f1, strB (Lib.itoa (x.f2.length : Int))], x.f2 ++ 10 :: r, 0) := by
    rw [e] at hlen ⊢
    refine store_words_fwd _ _ 3 rfl (by simp) (fun s hs => ?_) hlen
    simp only [List.mem_cons, List.not_mem_nil, or_false] at hs
    rcases hs with rfl | rfl | rfl
    · rw [hu]; exact itoa_word u
    · exact name_word (fine_named h)
    · exact itoa_word _
  have n0 : numF (strB (Lib.itoa x.f0)) 4 = (x.f0, 0) := by
    rw [hu]
    exact numF_itoa _ 4 u rfl (by omega)
  have n2 : numF (strB (Lib.itoa (x.f2.length : Int))) 1048576 = ((x.f2.length : Int), 0) := numF_itoa _ 1048576 _ rfl (by omega)
  have hw' : store_words.f (itemL x ++ r) 3 = some ([strB (Lib.itoa x.f0), x.f1, strB (Lib.itoa (x.f2.length : Int))], x.f2 ++ 10 :: r, 0) := hw
  unfold itemF
  rw [hw']
  simp only [if_pos, List.getD_cons_zero, List.getD_cons_succ, n0, n2, Int.toNat_natCast]
  have hg : (x.f2 ++ 10 :: r).getD x.f2.length 0 = 10 := by simp [List.getD]
  have ht : (x.f2 ++ 10 :: r).take x.f2.length = x.f2 := by simp
  have hd : (x.f2 ++ 10 :: r).drop (x.f2.length + 1) = r := by simp
  rw [if_pos ⟨trivial, trivial, by simp; omega, hg⟩, ht, hd, if_pos h]
theorem itemF_back (b : List Int) (x : It) (r : List Int) (e : Int) (he : e = 0) (hb : ∀ c ∈ b, 0 ≤ c ∧ c < 256) (h : itemF b = (x, r, e)) : b = itemL x ++ r ∧ fineB x = true := by
  subst he
  unfold itemF at h
  split at h
  · rename_i ws rest e hw
    split at h
    · rename_i he
      subst he
      obtain ⟨hbb, hl, hws⟩ := store_words_back b 3 (by omega) ws rest hb hw
      obtain ⟨s0, s1, s2, rfl⟩ : ∃ s0 s1 s2, ws = [s0, s1, s2] := by
        match ws, hl with
        | [a, b, c], _ => exact ⟨a, b, c, rfl⟩
      simp only [List.getD_cons_zero, List.getD_cons_succ] at h
      split at h
      · rename_i hc
        obtain ⟨c0, c2, clt, c10⟩ := hc
        obtain ⟨k, hk, hk4, hks⟩ := numF_back s0 4 c0
        obtain ⟨n, hn, hn4, hns⟩ := numF_back s2 1048576 c2
        rw [hk, hn, Int.toNat_natCast] at h
        rw [hn, Int.toNat_natCast] at c10
        rw [hn] at clt
        split at h
        · rename_i hf
          simp only [Prod.mk.injEq, and_true] at h
          obtain ⟨rfl, rfl⟩ := h
          refine ⟨?_, hf⟩
          have hlt : n < rest.length := by omega
          have e0 : s0 = strB (Lib.itoa (k : Int)) := bytes_ext hks
          have e2 : s2 = strB (Lib.itoa (((rest.take n).length : Nat) : Int)) := bytes_ext (by rw [hns, strB_list, List.length_take, Nat.min_eq_left (by omega)])
          rw [itemL_head]
          simp only
          rw [← e0, ← e2, hbb, List.append_assoc, List.append_assoc]
          congr 1
          have h10 : rest[n] = 10 := by simpa [List.getD, hlt] using c10
          rw [← h10]
          simp only [List.singleton_append, List.getElem_cons_drop, List.take_append_drop]
        · simp at h
      · simp at h
    · rename_i he
      simp only [Prod.mk.injEq] at h
      exact absurd h.2.2 he
  · simp at h
theorem items_cons (x : It) (l : List It) : itemsL (x :: l) = itemL x ++ itemsL l := rfl
theorem getLoop_fwd : ∀ (l acc : List It), (∀ x ∈ l, fineB x = true) → ((acc ++ l).map itName).Nodup → (itemsL l).length ≤ 1048576 → getLoop l.length acc (itemsL l) = (acc ++ l, 0)
  | [], acc, _, _, _ => by
    rw [List.append_nil]
    rfl
  | x :: l, acc, hf, hn, hl => by
    rw [items_cons] at hl
    have hi := itemF_fwd x (itemsL l) (hf x (by simp)) hl
    have hh : hasB acc x.f1 = false := by
      cases hq : hasB acc x.f1
      · rfl
      · exfalso
        have hm := (has_iff acc x.f1).1 hq
        rw [List.map_append, List.map_cons, List.nodup_append] at hn
        exact hn.2.2 _ hm (itName x) (by simp) rfl
    rw [List.length_cons, items_cons]
    unfold getLoop
    rw [hi]
    simp only
    rw [if_neg (fun h => h rfl), if_neg (by rw [hh]; decide)]
    have := getLoop_fwd l (acc ++ [x]) (fun y hy => hf y (by simp [hy])) (by rw [List.append_assoc]; exact hn) (by rw [List.length_append] at hl; omega)
    rw [this, List.append_assoc]
    rfl
theorem getLoop_back : ∀ (m : Nat) (acc : List It) (b : List Int) (a : List It) (e : Int), e = 0 → (∀ c ∈ b, 0 ≤ c ∧ c < 256) → getLoop m acc b = (a, e) → ∃ l, a = acc ++ l ∧ l.length = m ∧ b = itemsL l ∧ (∀ x ∈ l, fineB x = true) ∧ ((acc.map itName).Nodup → ((acc ++ l).map itName).Nodup)
  | 0, acc, b, a, e, he, hb, h => by
    subst he
    unfold getLoop at h
    split at h
    · simp at h
    · rename_i h0
      simp only [Prod.mk.injEq, and_true] at h
      subst h
      refine ⟨[], by simp, rfl, ?_, by simp, by simp⟩
      exact List.length_eq_zero_iff.1 (by omega)
  | m + 1, acc, b, a, e, he, hb, h => by
    subst he
    unfold getLoop at h
    generalize hi : itemF b = r at h
    obtain ⟨x, rest, e⟩ := r
    simp only at h
    split at h
    · rename_i h0
      simp only [Prod.mk.injEq] at h
      exact absurd h.2 h0
    · rename_i h0
      have h0' : e = 0 := Classical.not_not.1 h0
      obtain ⟨hbb, hf⟩ := itemF_back b x rest e h0' hb hi
      split at h
      · simp at h
      · rename_i hh
        have hh' : hasB acc x.f1 = false := by simpa using hh
        obtain ⟨l, ha, hl, hr, hfl, hn⟩ := getLoop_back m (acc ++ [x]) rest a 0 rfl (fun c hc => hb c (by rw [hbb]; exact List.mem_append_right _ hc)) h
        refine ⟨x :: l, by rw [ha, List.append_assoc]; rfl, by simp [hl], by rw [items_cons, ← hr]; exact hbb, ?_, ?_⟩
        · intro y hy
          rcases List.mem_cons.1 hy with rfl | hy
          · exact hf
          · exact hfl y hy
        · intro hacc
          have := hn (by
            rw [List.map_append, List.nodup_append]
            refine ⟨hacc, by simp, fun p hp q hq => ?_⟩
            have hq' : q = itName x := by simpa using hq
            intro e
            have : hasB acc x.f1 = true := (has_iff acc x.f1).2 (by rw [e, hq'] at hp; exact hp)
            rw [hh'] at this
            cases this)
          rwa [List.append_assoc] at this
theorem headL_of (n : Nat) : toI (headL n) = headOf [inq, strB (Lib.itoa (n : Int))] := by
  unfold headL headOf
  simp [joinC, strB_list, toI, inq]
theorem inq_word : WordOk inq ∧ (10 : UInt8) ∉ inq.data.toList := by
  unfold WordOk inq
  decide
theorem headF_fwd (l : List It) (h : mayB l = true) : headF (bodyL l) = (l, 0) := by
  obtain ⟨he, hl, hs, hfl⟩ := may_parts h
  have hbl : (bodyL l).length ≤ 1048576 := by
    unfold fileL at hfl
    rw [List.length_append] at hfl
    omega
  have hw : store_words.f (bodyL l) ((2 : Nat) : Int) = some ([inq, strB (Lib.itoa (l.length : Int))], itemsL l, 0) := by
    unfold bodyL at hbl ⊢
    rw [headL_of] at hbl ⊢
    refine store_words_fwd _ _ 2 rfl (by simp) (fun s hs => ?_) hbl
    simp only [List.mem_cons, List.not_mem_nil, or_false] at hs
    rcases hs with rfl | rfl
    · exact inq_word
    · exact itoa_word _
  have hw' : store_words.f (bodyL l) 2 = some ([inq, strB (Lib.itoa (l.length : Int))], itemsL l, 0) := hw
  have n1 : numF (strB (Lib.itoa (l.length : Int))) 256 = ((l.length : Int), 0) := numF_itoa _ 256 _ rfl (by omega)
  unfold headF
  rw [hw']
  simp only [List.getD_cons_zero, List.getD_cons_succ, n1, Int.toNat_natCast]
  rw [if_neg (fun h => h rfl), if_neg (fun h => h rfl), if_neg (fun h => h rfl)]
  have := getLoop_fwd l [] (each_fine he) (by rw [List.nil_append]; exact each_nodup he) (by unfold bodyL at hbl; rw [List.length_append] at hbl; omega)
  rw [this, List.nil_append]
theorem headF_back (b : List Int) (a : List It) (hb : ∀ c ∈ b, 0 ≤ c ∧ c < 256) (h : headF b = (a, 0)) : b = bodyL a ∧ eachB a = true ∧ a.length ≤ 256 := by
  unfold headF at h
  split at h
  · rename_i ws rest e hw
    split at h
    · simp at h
    · rename_i he
      have he' : e = 0 := Classical.not_not.1 he
      subst he'
      obtain ⟨hbb, hl, hws⟩ := store_words_back b 2 (by omega) ws rest hb hw
      obtain ⟨s0, s1, rfl⟩ : ∃ s0 s1, ws = [s0, s1] := by
        match ws, hl with
        | [a, b], _ => exact ⟨a, b, rfl⟩
      simp only [List.getD_cons_zero, List.getD_cons_succ] at h
      split at h
      · simp at h
      · rename_i hq
        have hq' : s0.toList = inq.toList := Classical.not_not.1 hq
        rw [bytes_list, bytes_list] at hq'
        obtain rfl := bytes_ext hq'
        split at h
        · rename_i hn
          simp only [Prod.mk.injEq] at h
          exact absurd h.2 hn
        · rename_i hn
          obtain ⟨n, hn1, hn2, hn3⟩ := numF_back s1 256 (Classical.not_not.1 hn)
          rw [hn1, Int.toNat_natCast] at h
          obtain ⟨l, ha, hl2, hr, hfl, hnd⟩ := getLoop_back n [] rest a 0 rfl (fun c hc => hb c (by rw [hbb]; exact List.mem_append_right _ hc)) h
          rw [List.nil_append] at ha hnd
          subst ha
          refine ⟨?_, ?_, by omega⟩
          · unfold bodyL
            rw [headL_of, hl2, ← hr, hbb]
            rw [show s1 = strB (Lib.itoa (n : Int)) from bytes_ext hn3]
          · unfold eachB
            rw [decide_eq_true (hnd (by simp)), List.all_eq_true.2 hfl]
            rfl
  · simp at h
end Go.Proofs.YtfnahihdkbgleaaGreatDoor.Z

namespace Go.Proofs.YtfnahihdkbgleaaGreatDoor.Z
set_option linter.unusedVariables false
open Go.RowKit Go.Proofs.YtfnahihdkbgleaaGreatDoorW.PrintWords Go.Proofs.YtfnahihdkbgleaaGreatDoorW.PrintMore
theorem digC_ne (d : Nat) (h : d < 16) : digC d ≠ 10 := by
  have : ∀ d : Fin 16, digC d.val ≠ 10 := by decide
  exact this ⟨d, h⟩
theorem lowDigs_mem : ∀ (k u : Nat) (c : UInt8), c ∈ lowDigs 16 k u → c ≠ 10
  | 0, u, c, h => by simp [lowDigs] at h
  | k + 1, u, c, h => by
    unfold lowDigs at h
    rcases List.mem_cons.1 h with rfl | h
    · exact digC_ne _ (Nat.mod_lt _ (by omega))
    · exact lowDigs_mem k u c h
/-- The line sum without its line end. -/
def sumL (b : List Int) : List UInt8 := [115, 117, 109, 32] ++ (List.replicate (8 - (numeral 16 (crcSum b).toNat).length) 48 ++ numeral 16 (crcSum b).toNat)
theorem last_sum (b : List Int) : lastL b = sumL b ++ [10] := by
  unfold lastL sumL
  simp only [List.append_assoc]
theorem sum_no (b : List Int) (c : UInt8) (h : c ∈ sumL b) : c ≠ 10 := by
  unfold sumL at h
  rcases List.mem_append.1 h with h | h
  · intro e
    subst e
    revert h
    decide
  · rcases List.mem_append.1 h with h | h
    · have := (List.mem_replicate.1 h).2
      subst this
      decide
    · exact lowDigs_mem _ _ c h
theorem bytesOf_toI (l : List UInt8) : Lib.bytesOf (toI l) = l := str_toI l
theorem cut_last (q : List Int) (s : List UInt8) (hs : ∀ c ∈ s, c ≠ 10) : cutAt (q ++ [10] ++ toI s) = (q ++ [10]).length := by
  refine cut_of (by simp) (fun j hj hl => ?_) (.inr ?_)
  · have hj2 : j - (q ++ [10]).length < (toI s).length := by
      rw [List.length_append] at hl
      omega
    have : (q ++ [10] ++ toI s).getD j 0 = (toI s)[j - (q ++ [10]).length] := by
      simp only [List.getD]
      rw [List.getElem?_append_right hj, List.getElem?_eq_getElem hj2]
      rfl
    rw [this]
    have hm := List.getElem_mem hj2
    unfold toI at hm
    obtain ⟨b, hb, he⟩ := List.mem_map.1 hm
    intro e
    have e2 : (b.toNat : Int) = 10 := he.trans e
    exact hs b hb (UInt8.toNat_inj.1 (by have : (10 : UInt8).toNat = 10 := rfl; omega))
  · have e : (q ++ [10]).length - 1 = q.length := by simp
    rw [e]
    simp only [List.getD]
    rw [List.append_assoc, List.getElem?_append_right (Nat.le_refl _)]
    simp
theorem bodyF_fwd (q : List Int) : bodyF (q ++ [10] ++ toI (lastL (q ++ [10]))) = (q ++ [10], 0) := by
  have e : q ++ [10] ++ toI (lastL (q ++ [10])) = (q ++ [10] ++ toI (sumL (q ++ [10]))) ++ [10] := by
    rw [last_sum, toI_append]
    simp [toI]
  have ht : (q ++ [10] ++ toI (lastL (q ++ [10]))).take ((q ++ [10] ++ toI (lastL (q ++ [10]))).length - 1) = q ++ [10] ++ toI (sumL (q ++ [10])) := by
    rw [e, List.length_append, List.length_singleton, Nat.add_sub_cancel, List.take_left]
  have hc : cutAt ((q ++ [10] ++ toI (lastL (q ++ [10]))).take ((q ++ [10] ++ toI (lastL (q ++ [10]))).length - 1)) = (q ++ [10]).length := by
    rw [ht]
    exact cut_last q _ (sum_no _)
  unfold bodyF
  rw [hc, List.drop_left, List.take_left, str_toI, bytes_list, str_toI]
  have h1 : Lib.hasSuffix (Lib.bytesOf (q ++ [10] ++ toI (lastL (q ++ [10])))) [10] = true := by
    rw [e]
    unfold Lib.hasSuffix Lib.bytesOf
    rw [List.map_append, List.isSuffixOf_iff_suffix]
    exact ⟨_, rfl⟩
  have h2 : Lib.hasPrefix (lastL (q ++ [10])) [115, 117, 109, 32] = true := by
    rw [last_sum]
    unfold Lib.hasPrefix sumL
    rw [List.isPrefixOf_iff_prefix, List.append_assoc]
    exact ⟨_, rfl⟩
  rw [if_pos h1, if_pos h2, if_pos (beq_self_eq_true _)]
theorem bodyF_back (b p : List Int) (hb : ∀ c ∈ b, 0 ≤ c ∧ c < 256) (h : bodyF b = (p, 0)) : b = p ++ toI (lastL p) := by
  unfold bodyF at h
  split at h
  · split at h
    · split at h
      · rename_i h3
        simp only [Prod.mk.injEq, and_true] at h
        rw [beq_iff_eq, bytes_list, h] at h3
        have := toI_str (b.drop (cutAt (b.take (b.length - 1)))) (fun c hc => hb c (List.mem_of_mem_drop hc))
        rw [h3] at this
        rw [this, ← h, List.take_append_drop]
      · simp at h
    · simp at h
  · simp at h
theorem items_snoc (l : List It) (x : It) : itemsL (l ++ [x]) = itemsL l ++ itemL x := by
  unfold itemsL
  simp
theorem body_end (l : List It) : ∃ q, bodyL l = q ++ [10] := by
  rcases List.eq_nil_or_concat l with rfl | ⟨m, x, rfl⟩
  · refine ⟨toI ([105, 110, 113, 117, 101, 115, 116, 32] ++ Lib.itoa (0 : Nat)), ?_⟩
    unfold bodyL headL itemsL
    simp [toI]
  · refine ⟨toI (headL (m ++ [x]).length) ++ (itemsL m ++ (toI (itemHead x) ++ x.f2)), ?_⟩
    unfold bodyL
    rw [List.concat_eq_append, items_snoc]
    unfold itemL
    simp
theorem getF_file (l : List It) (h : mayB l = true) : getF (fileL l) = (l, 0) := by
  obtain ⟨_, _, _, hfl⟩ := may_parts h
  obtain ⟨q, hq⟩ := body_end l
  have hb : bodyF (fileL l) = (bodyL l, 0) := by
    unfold fileL
    rw [hq]
    exact bodyF_fwd q
  unfold getF
  rw [if_neg (by omega), hb]
  simp only
  rw [if_neg (fun h => h rfl)]
  exact headF_fwd l h
theorem getF_back (b : List Int) (a : List It) (hb : ∀ c ∈ b, 0 ≤ c ∧ c < 256) (h : getF b = (a, 0)) : fileL a = b ∧ mayB a = true := by
  unfold getF at h
  split at h
  · simp at h
  · rename_i hl
    split at h
    · rename_i h0
      simp only [Prod.mk.injEq] at h
      exact absurd h.2 h0
    · rename_i h0
      have hB : bodyF b = ((bodyF b).1, 0) := Prod.ext rfl (Classical.not_not.1 h0)
      have h1 := bodyF_back b _ hb hB
      obtain ⟨h2, h3, h4⟩ := headF_back (bodyF b).1 a (fun c hc => hb c (by rw [h1]; exact List.mem_append_left _ hc)) h
      have h5 : fileL a = b := by
        unfold fileL
        rw [← h2]
        exact h1.symm
      exact ⟨h5, may_mk h3 h4 (by rw [h5]; omega)⟩
theorem getLoop_err : ∀ (m : Nat) (acc : List It) (b : List Int), (getLoop m acc b).2 ≠ 0 → (getLoop m acc b).1 = []
  | 0, acc, b, h => by
    unfold getLoop at h ⊢
    split
    · rfl
    · rename_i h0
      rw [if_neg h0] at h
      exact absurd rfl h
  | m + 1, acc, b, h => by
    unfold getLoop at h ⊢
    split
    · rfl
    · rename_i h0
      rw [if_neg h0] at h
      split
      · rfl
      · rename_i h1
        rw [if_neg h1] at h
        exact getLoop_err m _ _ h
theorem headF_err (b : List Int) (h : (headF b).2 ≠ 0) : (headF b).1 = [] := by
  unfold headF at h ⊢
  split
  · rename_i ws rest e hw
    rw [hw] at h
    simp only at h
    split
    · rfl
    · rename_i h0
      rw [if_neg h0] at h
      split
      · rfl
      · rename_i h1
        rw [if_neg h1] at h
        split
        · rfl
        · rename_i h2
          rw [if_neg h2] at h
          exact getLoop_err _ _ _ h
  · rfl
theorem getF_err (b : List Int) (h : (getF b).2 ≠ 0) : (getF b).1 = [] := by
  unfold getF at h ⊢
  split
  · rfl
  · rename_i h0
    rw [if_neg h0] at h
    split
    · rfl
    · rename_i h1
      rw [if_neg h1] at h
      exact headF_err _ h
/-- What is asked of the items that come in. -/
def ItIn (y : It) : Prop := ((0 ≤ y.f0 ∧ y.f0 < 256) ∧ ∀ b ∈ y.f2, 0 ≤ b ∧ b < 256) ∧ y.f1.size ≤ 9223372036854775807
theorem toI_bytes (l : List UInt8) : ∀ c ∈ toI l, 0 ≤ c ∧ c < 256 := by
  intro c hc
  unfold toI at hc
  obtain ⟨b, _, rfl⟩ := List.mem_map.1 hc
  have := b.toNat_lt
  omega
theorem file_bytes (l : List It) (h : ∀ x ∈ l, ∀ b ∈ x.f2, 0 ≤ b ∧ b < 256) : ∀ c ∈ fileL l, 0 ≤ c ∧ c < 256 := by
  intro c hc
  unfold fileL bodyL at hc
  rcases List.mem_append.1 hc with hc | hc
  · rcases List.mem_append.1 hc with hc | hc
    · exact toI_bytes _ c hc
    · unfold itemsL at hc
      obtain ⟨x, hx, hc⟩ := List.mem_flatMap.1 hc
      unfold itemL at hc
      rcases List.mem_append.1 hc with hc | hc
      · rcases List.mem_append.1 hc with hc | hc
        · exact toI_bytes _ c hc
        · exact h x hx c hc
      · have : c = 10 := by simpa using hc
        omega
  · exact toI_bytes _ c hc
theorem file_mem (l : List It) (x : It) (hx : x ∈ l) (b : Int) (hb : b ∈ x.f2) : b ∈ fileL l := by
  unfold fileL bodyL
  refine List.mem_append_left _ (List.mem_append_right _ ?_)
  unfold itemsL
  refine List.mem_flatMap.2 ⟨x, hx, ?_⟩
  unfold itemL
  exact List.mem_append_left _ (List.mem_append_right _ hb)
/-- What is got may be put: what is asked of items that come in holds. -/
theorem got_in (b : List Int) (a : List It) (hb : ∀ c ∈ b, 0 ≤ c ∧ c < 256) (h : getF b = (a, 0)) : ∀ y ∈ a, ItIn y := by
  obtain ⟨h1, h2⟩ := getF_back b a hb h
  obtain ⟨h3, _⟩ := may_parts h2
  intro y hy
  have hf := each_fine h3 y hy
  have hk := fine_kind hf
  have hn := fine_name hf
  exact ⟨⟨by omega, fun c hc => hb c (by rw [← h1]; exact file_mem a y hy c hc)⟩, by omega⟩
end Go.Proofs.YtfnahihdkbgleaaGreatDoor.Z
