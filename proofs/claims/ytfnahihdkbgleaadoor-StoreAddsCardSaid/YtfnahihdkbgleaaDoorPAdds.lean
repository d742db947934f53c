/- The plain law of StoreAdds. -/
import Derived.Test.YtfnahihdkbgleaaDoorZ4
namespace Go.Proofs.YtfnahihdkbgleaaDoor.Z
set_option linter.unusedVariables false
open Go.RowKit Go.Proofs.YtfnahihdkbgleaaDoorW.PrintWords Go.Proofs.YtfnahihdkbgleaaDoorW.PrintMore
theorem bytes_loop (s : ByteArray) : ∀ (d i : Nat) (r : List UInt8), i + d = s.size → ByteArray.toList.loop s i r = r.reverse ++ s.data.toList.drop i
  | 0, i, r, h => by
    unfold ByteArray.toList.loop
    have : s.data.toList.length = s.size := Array.length_toList
    rw [if_neg (by omega), List.drop_eq_nil_of_le (by omega), List.append_nil]
  | d + 1, i, r, h => by
    unfold ByteArray.toList.loop
    have hl : s.data.toList.length = s.size := Array.length_toList
    have hi : i < s.data.toList.length := by omega
    rw [if_pos (by omega), bytes_loop s d (i + 1) _ (by omega), List.drop_eq_getElem_cons hi]
    have e : s.get! i = s.data.toList[i] := by
      have h2 : i < s.data.size := by rw [Array.length_toList] at hi; exact hi
      show s.data[i]! = _
      exact getElem!_pos s.data i h2
    rw [e]
    simp
theorem bytes_list (s : ByteArray) : s.toList = s.data.toList := by
  unfold ByteArray.toList
  rw [bytes_loop s s.size 0 [] (by omega)]
  simp
theorem great_loop (l : List S29) (hl : l.length ≤ 9223372036854775807) : ∀ (d i : Nat) (s : Int), i + d = l.length → ∃ b, Ev (fun k => inquestlaw37_great.l0 k l s (l.length : Int) (i : Int)) b ∧ (b = false → l.length ≤ 300)
  | 0, i, s, h => by
    obtain rfl : i = l.length := by omega
    by_cases hg : l.length > 300
    · refine ⟨true, Ev.step (f := fun _ => some true) (fun k => ?_) (Ev.now _), fun h => by cases h⟩
      simp only [inquestlaw37_great.l0]
      rw [if_neg (by omega), if_pos (by omega)]
    · refine ⟨decide (s > 20000), Ev.step (f := fun _ => some (decide (s > 20000))) (fun k => ?_) (Ev.now _), fun _ => by omega⟩
      simp only [inquestlaw37_great.l0]
      rw [if_neg (by omega), if_neg (by omega)]
  | d + 1, i, s, h => by
    obtain ⟨b, hb, hq⟩ := great_loop l hl d (i + 1) (wrap64 (s + (((rd_T29 l i).f2).length : Int))) (by omega)
    refine ⟨b, Ev.step (fun k => ?_) hb, hq⟩
    simp only [inquestlaw37_great.l0]
    have e1 : wrap64 ((i : Int) + 1) = ((i + 1 : Nat) : Int) := by unfold wrap64; omega
    rw [if_pos (by omega), if_pos (by omega), if_pos (by omega), e1]
theorem great_ev (l : List S29) (hl : l.length ≤ 9223372036854775807) : ∃ b, Ev (fun k => inquestlaw37_great.f k l) b ∧ (b = false → l.length ≤ 300) := great_loop l hl l.length 0 0 (by omega)
/-- The item that Find finds. -/
def isIt (kind : Int) (name : ByteArray) (y : It) : Bool := decide (y.f0 = kind) && (y.f1.toList == name.toList)
def foundL (o : Option It) : List Int × Int := match o with
  | some y => (y.f2, 0)
  | none => ([], 7)
theorem find_loop (l : List S29) (kind : Int) (name : ByteArray) (hl : l.length ≤ 1000000000000) (hby : ∀ y ∈ l, y.f2.length ≤ 140737488355328) :
    ∀ (d i : Nat), i + d = l.length → Ev (fun k => store_Find.l0 k kind name l (l.length : Int) (i : Int)) (foundL ((l.drop i).find? (isIt kind name)))
  | 0, i, h => by
    obtain rfl : i = l.length := by omega
    refine Ev.step (f := fun _ => some (([] : List Int), (7 : Int))) (fun k => ?_) ?_
    · simp only [store_Find.l0]
      rw [if_neg (by omega)]
    · rw [List.drop_length]
      exact Ev.now _
  | d + 1, i, h => by
    have ih := find_loop l kind name hl hby d (i + 1) (by omega)
    have hi : i < l.length := by omega
    have hx : rd_T29 l (i : Int) = l[i] := by simp [rd_T29, List.getD, hi]
    have hb := hby _ (List.getElem_mem hi)
    have e1 : wrap64 ((i : Int) + 1) = ((i + 1 : Nat) : Int) := by unfold wrap64; omega
    rw [List.drop_eq_getElem_cons hi, List.find?_cons]
    generalize l[i] = x at *
    cases hp : isIt kind name x
    · refine Ev.step (fun k => ?_) ih
      simp only [store_Find.l0, hx, e1]
      rw [if_pos (by omega), if_pos (by omega), if_pos (by omega)]
      unfold isIt at hp
      by_cases h1 : x.f0 = kind
      · rw [if_pos h1]
        by_cases h2 : x.f1.toList = name.toList
        · exfalso
          rw [h2] at hp
          simp [h1] at hp
        · rw [if_neg h2]
      · rw [if_neg h1]
    · refine Ev.step (f := fun _ => some (x.f2, (0 : Int))) (fun k => ?_) (Ev.now _)
      unfold isIt at hp
      simp only [Bool.and_eq_true, decide_eq_true_eq, beq_iff_eq] at hp
      simp only [store_Find.l0, hx]
      rw [if_pos (by omega), if_pos (by omega), if_pos (by omega), if_pos hp.1, if_pos hp.2]
      unfold bytes_Clone.f
      rw [if_pos hb]
      rfl
theorem find_ev (l : List S29) (kind : Int) (name : ByteArray) (hl : l.length ≤ 1000000000000) (hby : ∀ y ∈ l, y.f2.length ≤ 140737488355328) :
    Ev (fun k => store_Find.f k l kind name) (foundL (l.find? (isIt kind name))) := find_loop l kind name hl hby l.length 0 (by omega)
theorem bytes_same (a : List Int) : inquestref00_Bytes.f a a = some true := by
  unfold inquestref00_Bytes.f
  rw [beq_self_eq_true]
theorem has_iff (l : List It) (s : ByteArray) : hasB l s = true ↔ s.data.toList ∈ l.map itName := by
  unfold hasB itName
  rw [List.any_eq_true, List.mem_map]
  constructor
  · rintro ⟨y, hy, h⟩
    rw [beq_iff_eq, bytes_list, bytes_list] at h
    exact ⟨y, hy, h⟩
  · rintro ⟨y, hy, h⟩
    refine ⟨y, hy, ?_⟩
    rw [beq_iff_eq, bytes_list, bytes_list]
    exact h
theorem each_fine {l : List It} (h : eachB l = true) : ∀ y ∈ l, fineB y = true := by
  unfold eachB at h
  simp only [Bool.and_eq_true, List.all_eq_true] at h
  exact h.1
theorem each_nodup {l : List It} (h : eachB l = true) : (l.map itName).Nodup := by
  unfold eachB at h
  simp only [Bool.and_eq_true, decide_eq_true_eq] at h
  exact h.2
theorem fine_len {y : It} (h : fineB y = true) : y.f2.length ≤ 1048576 := by
  unfold fineB at h
  simp only [Bool.and_eq_true, decide_eq_true_eq] at h
  exact h.2
theorem fine_kind {y : It} (h : fineB y = true) : 1 ≤ y.f0 ∧ y.f0 ≤ 4 := by
  unfold fineB at h
  simp only [Bool.and_eq_true, decide_eq_true_eq] at h
  exact ⟨h.1.1.1, h.1.1.2⟩
theorem fine_name {y : It} (h : fineB y = true) : y.f1.size ≤ 64 := by
  unfold fineB namedB at h
  simp only [Bool.and_eq_true, decide_eq_true_eq] at h
  exact h.1.2.1.2
theorem each_snoc {l : List It} {x : It} (h : eachB l = true) (hf : fineB x = true) (hh : hasB l x.f1 = false) : eachB (l ++ [x]) = true := by
  have h1 := each_take (l ++ [x]) l.length (by simp) (by rw [List.take_left]; exact h)
  rw [List.take_of_length_le (by simp)] at h1
  rw [h1]
  have : (l ++ [x])[l.length]'(by simp) = x := by simp
  rw [this, hf, List.take_left]
  have hn : itName x ∉ l.map itName := fun hm => by
    have := (has_iff l x.f1).2 hm
    rw [hh] at this
    cases this
  rw [decide_eq_true hn]
  rfl
theorem size_le_file (l : List It) : sizeL l ≤ (fileL l).length := by
  have h : ∀ l : List It, sizeL l ≤ (itemsL l).length := by
    intro l
    induction l with
    | nil => simp [sizeL]
    | cons a l ih =>
      have e1 : itemsL (a :: l) = itemL a ++ itemsL l := rfl
      have e2 : sizeL (a :: l) = a.f2.length + sizeL l := rfl
      have e3 : a.f2.length ≤ (itemL a).length := by
        unfold itemL
        simp only [List.length_append]
        omega
      rw [e1, e2, List.length_append]
      omega
  have := h l
  unfold fileL bodyL
  simp only [List.length_append]
  omega
/-- The only item of a store with that name. -/
theorem find_own {m : List It} (h : (m.map itName).Nodup) (kind : Int) {y : It} (hy : y ∈ m) : m.find? (isIt kind y.f1) = if y.f0 = kind then some y else none := by
  induction m with
  | nil => cases hy
  | cons a m ih =>
    rw [List.map_cons, List.nodup_cons] at h
    rw [List.find?_cons]
    rcases List.mem_cons.1 hy with rfl | hm
    · by_cases hk : y.f0 = kind
      · have : isIt kind y.f1 y = true := by unfold isIt; simp [hk]
        rw [this, if_pos hk]
      · have : isIt kind y.f1 y = false := by unfold isIt; simp [hk]
        rw [this, if_neg hk]
        show m.find? (isIt kind y.f1) = none
        rw [List.find?_eq_none]
        intro z hz hp
        unfold isIt at hp
        simp only [Bool.and_eq_true, beq_iff_eq, bytes_list] at hp
        exact h.1 (List.mem_map.2 ⟨z, hz, hp.2⟩)
    · have : isIt kind y.f1 a = false := by
        cases hp : isIt kind y.f1 a
        · rfl
        · exfalso
          unfold isIt at hp
          simp only [Bool.and_eq_true, beq_iff_eq, bytes_list] at hp
          exact h.1 (List.mem_map.2 ⟨y, hm, hp.2.symm⟩)
      rw [this]
      exact ih h.2 hm
theorem find_none {m : List It} {s : ByteArray} (h : hasB m s = false) (kind : Int) : m.find? (isIt kind s) = none := by
  rw [List.find?_eq_none]
  intro z hz hp
  unfold isIt at hp
  simp only [Bool.and_eq_true, beq_iff_eq] at hp
  have : hasB m s = true := by
    unfold hasB
    rw [List.any_eq_true]
    exact ⟨z, hz, by rw [beq_iff_eq]; exact hp.2⟩
  rw [h] at this
  cases this
/-- What is asked of the items that come in. -/
def ItIn (y : It) : Prop := ((0 ≤ y.f0 ∧ y.f0 < 256) ∧ ∀ b ∈ y.f2, 0 ≤ b ∧ b < 256) ∧ y.f1.size ≤ 9223372036854775807
theorem may_parts {l : List It} (h : mayB l = true) : eachB l = true ∧ l.length ≤ 256 ∧ sizeL l ≤ 1048576 ∧ (fileL l).length ≤ 1048576 := by
  unfold mayB at h
  simp only [Bool.and_eq_true, decide_eq_true_eq] at h
  exact ⟨h.1.1.1, h.1.1.2, h.1.2, h.2⟩
theorem may_mk {l : List It} (h1 : eachB l = true) (h2 : l.length ≤ 256) (h3 : (fileL l).length ≤ 1048576) : mayB l = true := by
  unfold mayB
  rw [h1, decide_eq_true h2, decide_eq_true (Nat.le_trans (size_le_file l) h3), decide_eq_true h3]
  rfl
theorem sum_le (l : List It) (h : ∀ y ∈ l, y.f2.length ≤ 1048576) : sizeL l ≤ 1048576 * l.length := by
  induction l with
  | nil => simp [sizeL]
  | cons a l ih =>
    have e2 : sizeL (a :: l) = a.f2.length + sizeL l := rfl
    have h1 := h a List.mem_cons_self
    have h2 := ih (fun y hy => h y (List.mem_cons_of_mem _ hy))
    rw [e2, List.length_cons]
    omega
theorem file_fine_le (l : List It) (h : ∀ y ∈ l, fineB y = true) (hl : l.length ≤ 1000) : (fileL l).length ≤ 140737488355328 := by
  have h1 := items_le l h
  have h2 := Lib.itoa_length_le (l.length : Int) (by omega) (by omega)
  have h3 := sum_le l (fun y hy => fine_len (h y hy))
  unfold fileL
  rw [List.length_append, toI, List.length_map, last_length]
  unfold bodyL headL
  simp only [List.length_append, List.length_cons, List.length_nil, toI, List.length_map]
  omega
theorem add_is {l : List S29} {x : S29} (hl : ∀ y ∈ l, ItIn y) (hx : ItIn x) (hf : ∀ y ∈ l, fineB y = true) (hn : l.length ≤ 999) (hxb : x.f2.length ≤ 140737488355328) :
    store_Add.f l x.f0 x.f1 x.f2 = some (addL l x) := by
  unfold store_Add.f
  have hm : ∀ y ∈ l ++ [x], ItIn y := fun y hy => by
    rcases List.mem_append.1 hy with h | h
    · exact hl y h
    · rw [List.mem_singleton.1 h]; exact hx
  rw [if_pos]
  refine ⟨⟨hm, by simp; omega⟩, fun y hy => ?_, fun hxf _ => ?_⟩
  · rcases List.mem_append.1 hy with h | h
    · have := fine_len (hf y h); omega
    · rw [List.mem_singleton.1 h]; exact hxb
  · refine file_fine_le _ (fun y hy => ?_) (by simp; omega)
    rcases List.mem_append.1 hy with h | h
    · exact hf y h
    · rw [List.mem_singleton.1 h]; exact hxf
theorem may_is {l : List S29} (hl : ∀ y ∈ l, ItIn y) (hn : l.length ≤ 1000000000000) : store_May.f l = some (mayB l) := by
  unfold store_May.f
  rw [if_pos]
  exact ⟨hl, hn⟩
theorem other_kind {z : Int} (h : 1 ≤ z ∧ z ≤ 4) : ¬ z = ((Int.tmod z 4) + 1) % 256 := by
  have h4 : z = 1 ∨ z = 2 ∨ z = 3 ∨ z = 4 := by omega
  rcases h4 with rfl | rfl | rfl | rfl <;> decide
theorem adds_last (l m : List S29) (x : S29) (hm : m = l ++ [x]) (hl : ∀ y ∈ m, ItIn y) (hf : ∀ y ∈ m, fineB y = true) (hnd : (m.map itName).Nodup) (hn : m.length ≤ 256) (hh : hasB l x.f1 = false) :
    Ev (fun k => inquestlaw37_StoreAdds.l0 k l m (m.length : Int) (m.length : Int) x.f0 x.f1 x.f2) true := by
  have hxm : x ∈ m := by rw [hm]; simp
  have hby : ∀ y ∈ m, y.f2.length ≤ 140737488355328 := fun y hy => by have := fine_len (hf y hy); omega
  have hbyl : ∀ y ∈ l, y.f2.length ≤ 140737488355328 := fun y hy => hby y (by rw [hm]; exact List.mem_append_left _ hy)
  obtain ⟨K0, h0⟩ := find_ev m x.f0 x.f1 (by omega) hby
  obtain ⟨K1, h1⟩ := find_ev m (((Int.tmod x.f0 4) + 1) % 256) x.f1 (by omega) hby
  obtain ⟨K2, h2⟩ := find_ev l x.f0 x.f1 (by rw [hm] at hn; simp at hn; omega) hbyl
  rw [find_own hnd _ hxm, if_pos rfl] at h0
  rw [find_own hnd _ hxm, if_neg (other_kind (fine_kind (hf x hxm)))] at h1
  rw [find_none hh] at h2
  dsimp only at h0 h1 h2
  have ha : store_Add.f m x.f0 x.f1 x.f2 = some ([], 8) := by
    rw [add_is hl (hl x hxm) hf (by omega) (hby x hxm)]
    unfold addL
    rw [hf x hxm, (has_iff m x.f1).2 (List.mem_map.2 ⟨x, hxm, rfl⟩)]
    rfl
  refine ⟨K0 + K1 + K2 + 2, fun k hk => ?_⟩
  obtain ⟨k, rfl⟩ : ∃ j, k = j + 2 := ⟨k - 2, by omega⟩
  simp only [inquestlaw37_StoreAdds.l0]
  rw [if_neg (by omega), h0 (k + 1) (by omega)]
  simp only [Option.bind_some, ha]
  rw [h1 (k + 1) (by omega)]
  simp only [Option.bind_some, foundL]
  rw [if_pos trivial, bytes_same]
  simp only [Option.bind_some]
  rw [if_pos trivial, if_pos trivial]
  simp only [inquestlaw37_StoreAdds.j3]
  rw [if_neg (by decide), h2 k (by omega)]
  simp only [Option.bind_some, foundL]
  rw [if_pos trivial]
  rfl
theorem adds_loop (l m : List S29) (x : S29) (hm : m = l ++ [x]) (hl : ∀ y ∈ m, ItIn y) (hf : ∀ y ∈ m, fineB y = true) (hnd : (m.map itName).Nodup) (hn : m.length ≤ 256) (hh : hasB l x.f1 = false) :
    ∀ (d i : Nat), i + d = m.length → Ev (fun k => inquestlaw37_StoreAdds.l0 k l m (m.length : Int) (i : Int) x.f0 x.f1 x.f2) true
  | 0, i, h => by
    obtain rfl : i = m.length := by omega
    exact adds_last l m x hm hl hf hnd hn hh
  | d + 1, i, h => by
    obtain ⟨K, ih⟩ := adds_loop l m x hm hl hf hnd hn hh d (i + 1) (by omega)
    have hi : i < m.length := by omega
    have hby : ∀ y ∈ m, y.f2.length ≤ 140737488355328 := fun y hy => by have := fine_len (hf y hy); omega
    have hx : rd_T29 m (i : Int) = m[i] := by simp [rd_T29, List.getD, hi]
    have e1 : wrap64 ((i : Int) + 1) = ((i + 1 : Nat) : Int) := by unfold wrap64; omega
    obtain ⟨K0, h0⟩ := find_ev m m[i].f0 m[i].f1 (by omega) hby
    rw [find_own hnd _ (List.getElem_mem hi), if_pos rfl] at h0
    dsimp only at h0
    refine ⟨K + K0 + 1, fun k hk => ?_⟩
    obtain ⟨k, rfl⟩ : ∃ j, k = j + 1 := ⟨k - 1, by omega⟩
    simp only [inquestlaw37_StoreAdds.l0, hx, e1]
    rw [if_pos (by omega), if_pos (by omega), if_pos (by omega), h0 k (by omega)]
    simp only [Option.bind_some, foundL]
    rw [if_pos trivial, bytes_same]
    simp only [Option.bind_some]
    rw [if_pos trivial]
    exact ih k (by omega)
theorem adds_lives (l : List S29) (x : S29) : Ev (fun k => inquestlaw37_StoreAdds.j0 k l true x.f0 x.f1 x.f2) true := by
  refine Ev.step (f := fun _ => some true) (fun k => ?_) (Ev.now _)
  simp only [inquestlaw37_StoreAdds.j0]
  rw [if_pos trivial]
  rfl
theorem addL_cases (l : List S29) (x : S29) : ((addL l x).1 = [] ∧ (addL l x).2 ≠ 0) ∨ (addL l x = (l ++ [x], 0) ∧ fineB x = true ∧ hasB l x.f1 = false ∧ (l ++ [x]).length ≤ 256 ∧ (fileL (l ++ [x])).length ≤ 1048576) := by
  unfold addL
  cases hf : fineB x
  · exact .inl ⟨rfl, by simp⟩
  · cases hh : hasB l x.f1
    · simp only [if_true, Bool.false_eq_true, if_false]
      by_cases hc : (l ++ [x]).length > 256 ∨ (fileL (l ++ [x])).length > 1048576
      · rw [if_pos hc]; exact .inl ⟨rfl, by simp⟩
      · rw [if_neg hc]
        exact .inr ⟨rfl, trivial, trivial, by omega, by omega⟩
    · exact .inl ⟨rfl, by simp⟩
theorem adds_ne (n : Nat) (h : n ≤ 256) : (((n + 1 : Nat) : Int) != wrap64 ((n : Int) + 1)) = false := by
  have : wrap64 ((n : Int) + 1) = ((n + 1 : Nat) : Int) := by
    unfold wrap64
    omega
  rw [this]
  exact bne_self_eq_false _
theorem adds_j1 (l m : List S29) (x : S29) (k : Nat) (r : Option Bool) (hK : inquestlaw37_StoreAdds.l0 k l m (m.length : Int) 0 x.f0 x.f1 x.f2 = r) : inquestlaw37_StoreAdds.j1 (k + 1) l m false x.f0 x.f1 x.f2 = r := by
  simp only [inquestlaw37_StoreAdds.j1]
  rw [if_neg (by decide)]
  exact hK
theorem adds_j0 (l m : List S29) (x : S29) (k : Nat) (r : Option Bool) (ha : store_Add.f l x.f0 x.f1 x.f2 = some (m, 0)) (hM : store_May.f m = some true) (hne : ((m.length : Int) != wrap64 ((l.length : Int) + 1)) = false)
    (hK : inquestlaw37_StoreAdds.j1 k l m false x.f0 x.f1 x.f2 = r) : inquestlaw37_StoreAdds.j0 (k + 1) l false x.f0 x.f1 x.f2 = r := by
  simp only [inquestlaw37_StoreAdds.j0]
  rw [if_neg (by decide), ha, Option.bind_some]
  rw [if_pos rfl, hM, Option.bind_some, if_pos rfl, hne]
  exact hK
theorem adds_go (l m : List S29) (x : S29) (hm : m = l ++ [x]) (hl : ∀ y ∈ m, ItIn y) (ha : store_Add.f l x.f0 x.f1 x.f2 = some (m, 0)) (hE : eachB m = true) (hh : hasB l x.f1 = false) (hn : m.length ≤ 256) (hM : mayB m = true) :
    Ev (fun k => inquestlaw37_StoreAdds.j0 k l false x.f0 x.f1 x.f2) true := by
  have hM : store_May.f m = some true := by
    rw [may_is hl (by omega), hM]
  obtain ⟨K, hK⟩ := adds_loop l m x hm hl (each_fine hE) (each_nodup hE) hn hh m.length 0 (Nat.zero_add _)
  have hne : ((m.length : Int) != wrap64 ((l.length : Int) + 1)) = false := by
    have hml : m.length = l.length + 1 := by rw [hm, List.length_append, List.length_singleton]
    rw [hml]
    exact adds_ne l.length (by omega)
  refine ⟨K + 2, fun k hk => ?_⟩
  obtain ⟨k, rfl⟩ : ∃ j, k = j + 2 := ⟨k - 2, by omega⟩
  exact adds_j0 l m x (k + 1) (some true) ha hM hne (adds_j1 l m x k (some true) (hK k (by omega)))
theorem adds_on (l : List S29) (x : S29) (hl : ∀ y ∈ l, ItIn y) (hx : ItIn x) (hmay : mayB l = true) (hxb : x.f2.length ≤ 20000) : Ev (fun k => inquestlaw37_StoreAdds.j0 k l false x.f0 x.f1 x.f2) true := by
  obtain ⟨he, hn, _, _⟩ := may_parts hmay
  have ha := add_is hl hx (each_fine he) (by omega) (by omega)
  rcases addL_cases l x with ⟨h0, hz⟩ | ⟨hA, hfx, hh, hn2, hf2⟩
  · refine Ev.step (f := fun _ => some true) (fun k => ?_) (Ev.now _)
    simp only [inquestlaw37_StoreAdds.j0]
    rw [if_neg (by decide), ha]
    simp only [Option.bind_some]
    rw [if_neg hz, h0, if_pos (by simp)]
    rfl
  · have hE := each_snoc he hfx hh
    have hIn : ∀ y ∈ l ++ [x], ItIn y := fun y hy => by
      rcases List.mem_append.1 hy with h | h
      · exact hl y h
      · rw [List.mem_singleton.1 h]; exact hx
    exact adds_go l _ x rfl hIn (by rw [ha, hA]) hE hh hn2 (may_mk hE hn2 hf2)
theorem StoreAdds_pure (l : List S29) (x : S29) (hl : ∀ y ∈ l, ItIn y) (hx : ItIn x) (hn : l.length ≤ 9223372036854775807) : ∃ k, inquestlaw37_StoreAdds.f k l x.f0 x.f1 x.f2 = some true := by
  obtain ⟨b, hb, hq⟩ := great_ev l hn
  refine Ev.rounds (g := fun k => inquestlaw37_StoreAdds.f k l x.f0 x.f1 x.f2) ?_
  unfold inquestlaw37_StoreAdds.f
  refine Ev.bind hb ?_
  cases b
  · have hle := hq rfl
    by_cases h2 : (x.f2.length : Int) > 20000
    · refine Ev.congr (fun k => ?_) (adds_lives l x)
      rw [if_neg (by decide), if_pos h2]
    · cases hm : mayB l
      · refine Ev.congr (fun k => ?_) (adds_lives l x)
        rw [if_neg (by decide), if_neg h2, may_is hl (by omega), hm]
        rfl
      · refine Ev.congr (fun k => ?_) (adds_on l x hl hx hm (by omega))
        rw [if_neg (by decide), if_neg h2, may_is hl (by omega), hm]
        rfl
  · refine Ev.congr (fun k => ?_) (adds_lives l x)
    rw [if_pos rfl]
end Go.Proofs.YtfnahihdkbgleaaDoor.Z
