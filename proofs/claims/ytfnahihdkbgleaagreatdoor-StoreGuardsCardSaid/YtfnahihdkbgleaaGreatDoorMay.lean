/- store.May. -/
import Derived.Test.YtfnahihdkbgleaaGreatDoorFine
import Derived.Maps.Own
import Derived.Maps.OwnOps
import Derived.Maps.Views
import Derived.Maps.OwnSet
import Derived.Deep.Draws
namespace Go.Proofs.YtfnahihdkbgleaaGreatDoor.Z
set_option linter.unusedVariables false
open Go.RowKit Go.WideMaps Go.Maps Go.Proofs.YtfnahihdkbgleaaGreatDoorW.PrintWords
def itName (x : It) : List UInt8 := x.f1.data.toList
def sizeL (l : List It) : Nat := (l.map fun x => x.f2.length).sum
/-- All items may be, no name stands twice. -/
def eachB (l : List It) : Bool := l.all fineB && decide ((l.map itName).Nodup)
def mayB (l : List It) : Bool := eachB l && decide (l.length ≤ 256) && decide (sizeL l ≤ 1048576) && decide ((fileL l).length ≤ 1048576)
theorem key_law : Keyed Tryz.prog 9 := string_keyed Tryz.underlying9
theorem zero_int (w : World) : (zeroValue 3).run Tryz.prog w = .ok (.int .i64 0) w := by kernel_rfl
def keyL (s : List UInt8) : Lit := .string s
/-- The map counts these names. -/
structure Told (D : DataW Unit) (names : List (List UInt8)) : Prop where
  isMap : IsMap D
  at_ : ∀ s, D.atKey (keyL s) (.lit (.int .i64 0)) = .lit (.int .i64 (if s ∈ names then 1 else 0))
theorem Told.put {D : DataW Unit} {names : List (List UInt8)} (h : Told D names) (s : List UInt8) : Told (D.put (keyL s) (.lit (.int .i64 1))) (names ++ [s]) := by
  refine ⟨?_, fun q => ?_⟩
  · obtain ⟨es, rfl⟩ := h.isMap
    exact ⟨_, rfl⟩
  · by_cases e : q = s
    · subst e
      rw [atKey_put_same h.isMap (by unfold keyL; trivial)]
      simp
    · rw [atKey_put_other (fun e' => e (by simpa [keyL] using e')), h.at_ q]
      simp [e]
theorem each_take (l : List It) (k : Nat) (hk : k < l.length) (h : eachB (l.take k) = true) :
    eachB (l.take (k + 1)) = (fineB l[k] && decide (itName l[k] ∉ (l.take k).map itName)) := by
  rw [List.take_succ_eq_append_getElem hk]
  unfold eachB at h ⊢
  simp only [Bool.and_eq_true, decide_eq_true_eq] at h
  rw [List.all_append, h.1, List.map_append]
  simp only [List.all_cons, List.all_nil, Bool.and_true, Bool.true_and, List.map_cons, List.map_nil]
  congr 1
  rw [decide_eq_decide, List.nodup_append]
  constructor
  · rintro ⟨_, _, h3⟩ hm
    exact h3 _ hm _ List.mem_cons_self rfl
  · intro hm
    refine ⟨h.2, by simp, ?_⟩
    intro a ha b hb e
    rw [List.mem_singleton.1 hb] at e
    exact hm (e ▸ ha)
theorem each_false (l : List It) (k : Nat) (h : eachB (l.take k) = false) : eachB l = false := by
  cases e : eachB l
  · rfl
  · rw [← Bool.not_eq_true] at h
    refine absurd ?_ h
    unfold eachB at e ⊢
    simp only [Bool.and_eq_true, decide_eq_true_eq, List.all_eq_true] at e ⊢
    exact ⟨fun x hx => e.1 x (List.mem_of_mem_take hx), by rw [List.map_take]; exact e.2.sublist (List.take_sublist _ _)⟩
theorem sizeL_take (l : List It) (k : Nat) (hk : k < l.length) : sizeL (l.take (k + 1)) = sizeL (l.take k) + l[k].f2.length := by
  unfold sizeL
  rw [List.take_succ_eq_append_getElem hk]
  simp only [List.map_append, List.sum_append, List.map_cons, List.map_nil, List.sum_cons, List.sum_nil, Nat.add_zero]
theorem sizeL_le (l : List It) (k : Nat) (h : eachB (l.take k) = true) : sizeL (l.take k) ≤ 1048576 * k := by
  have hf : ∀ x ∈ l.take k, x.f2.length ≤ 1048576 := by
    intro x hx
    unfold eachB at h
    simp only [Bool.and_eq_true, List.all_eq_true] at h
    have := h.1 x hx
    unfold fineB at this
    simp only [Bool.and_eq_true, decide_eq_true_eq] at this
    exact this.2
  have : ∀ m : List It, (∀ x ∈ m, x.f2.length ≤ 1048576) → sizeL m ≤ 1048576 * m.length := by
    intro m hm
    induction m with
    | nil => simp [sizeL]
    | cons a m ih =>
      have h1 := hm a List.mem_cons_self
      have h2 := ih (fun x hx => hm x (List.mem_cons_of_mem _ hx))
      unfold sizeL at h2 ⊢
      simp only [List.map_cons, List.sum_cons, List.length_cons]
      omega
  refine Nat.le_trans (this _ hf) ?_
  exact Nat.mul_le_mul_left _ (List.length_take_le _ _)
theorem last_length (b : List Int) : (lastL b).length = 13 := by
  have := numeral_length _ (crcSum b).isLt
  unfold lastL
  simp only [List.length_append, List.length_cons, List.length_nil, List.length_replicate]
  omega
theorem item_le (x : It) (h : fineB x = true) : (itemL x).length ≤ 110 + x.f2.length := by
  unfold fineB namedB at h
  simp only [Bool.and_eq_true, decide_eq_true_eq] at h
  have h0 := Lib.itoa_length_le x.f0 (by omega) (by omega)
  have h1 := Lib.itoa_length_le (x.f2.length : Int) (by omega) (by omega)
  have h2 : x.f1.data.toList.length ≤ 64 := h.1.2.1.2
  unfold itemL itemHead
  simp only [List.length_append, List.length_cons, List.length_nil, toI, List.length_map]
  omega
theorem items_le (l : List It) (h : ∀ x ∈ l, fineB x = true) : (itemsL l).length ≤ 110 * l.length + sizeL l := by
  induction l with
  | nil => simp [itemsL]
  | cons x l ih =>
    have h1 := item_le x (h x List.mem_cons_self)
    have h2 := ih (fun y hy => h y (List.mem_cons_of_mem _ hy))
    have e1 : itemsL (x :: l) = itemL x ++ itemsL l := rfl
    have e2 : sizeL (x :: l) = x.f2.length + sizeL l := rfl
    rw [e1, e2, List.length_append, List.length_cons]
    omega
theorem file_le (l : List It) (h : eachB l = true) : (fileL l).length ≤ 43 + 21 + 110 * l.length + sizeL l ∨ l.length > 9223372036854775807 := by
  by_cases hl : l.length > 9223372036854775807
  · exact .inr hl
  · refine .inl ?_
    unfold eachB at h
    simp only [Bool.and_eq_true, List.all_eq_true] at h
    have h1 := items_le l h.1
    have h2 := Lib.itoa_length_le (l.length : Int) (by omega) (by omega)
    unfold fileL
    rw [List.length_append, toI, List.length_map, last_length]
    unfold bodyL headL
    simp only [List.length_append, List.length_cons, List.length_nil, toI, List.length_map]
    omega
set_option maxHeartbeats 3200000 in
set_option maxRecDepth 100000 in
theorem may_calls (l : List It) (ho : ItOk l) (hnm : ∀ x ∈ l, x.f1.size ≤ maxLen) (hlen : l.length ≤ 1000000000000) (A0 : Option Addr) (c0 : Nat) (w : World) (hG : Gl w) (hr : Kd.C k37 w A0 l.length l) (hc : l.length ≤ c0) :
    Calls Tryz.prog 8 #[.slice A0 l.length c0] w fun e w' => e = .returned (.bool (mayB l)) ∧ Below w.heap.size w w' := by
  have HR := Lib.hid hr
  have HO := Lib.hid ho
  have HNM := Lib.hid hnm
  clear hr ho hnm
  have hu := Tryz.underlying37
  have hmm := @run_makeMap Tryz.prog
  go_enter Tryz.func8, Tryz.ntmps8
  go_wp2_with fail
  go_loopw [10, 4] (fun i s wr => ∃ (k : Nat) (D : DataW Unit), k ≤ l.length ∧ i = .int .i64 (k : Int) ∧ s = .int .i64 (sizeL (l.take k) : Int) ∧ eachB (l.take k) = true ∧ Told D ((l.take k).map itName) ∧ wr.ownsMap Tryz.prog 9 (plainElem Tryz.prog 3) w.heap.size k D ∧ Below w.heap.size w wr) (fun i _ _ => l.length - (intOf i).toNat)
  case atStart => exact ⟨0, .map [], Nat.zero_le _, rfl, rfl, rfl, ⟨isMap_empty, fun s => rfl⟩, World.ownsMap_made _ _ _ _, (Below.refl _ _).alloc (Nat.le_refl _) _⟩
  case round =>
    obtain ⟨k, D, hk, rfl, rfl, hE, hT, hown, hb⟩ := hrel
    by_cases hlt : k < l.length
    · have hlt' : (k : Int) < (l.length : Int) := by omega
      obtain ⟨ad, A2, c2, rfl, hx0, hx1, hx2, hl2, hr2⟩ := at_T37 HR.out (k : Int) (by omega) (by omega)
      have hxe : rd_T37 l (k : Int) = l[k] := by simp [rd_T37, List.getD, hlt]
      rw [hxe] at hx0 hx1 hx2 hl2 hr2
      simp only [Int.toNat_natCast] at hx0 hx1 hx2
      have hsx : (l[k]).f1.size ≤ maxLen := HNM.out _ (List.getElem_mem hlt)
      have HET := Lib.hid (each_take l k hlt hE)
      have HSZ := Lib.hid (sizeL_take l k hlt)
      have hszk := sizeL_le l k hE
      clear hr2 hl2 hxe
      generalize hxx : l[k] = x at *
      have HXX := Lib.hid hxx
      clear hxx
      replace hx0 := (hb.cell (World.block_lt_of_cell? w _ hx0)).trans hx0
      replace hx1 := (hb.cell (World.block_lt_of_cell? w _ hx1)).trans hx1
      replace hx2 := (hb.cell (World.block_lt_of_cell? w _ hx2)).trans hx2
      have hown' := Lib.hid (hown.alloc (.cells #[.int .u8 x.f0, .string x.f1, .slice A2 x.f2.length c2] 37))
      have hb' := Lib.hid (hb.alloc hb.size (.cells #[.int .u8 x.f0, .string x.f1, .slice A2 x.f2.length c2] 37))
      have han : w.heap.size < wr.heap.size := hown.lt
      have HT := Lib.hid hT
      clear hown hb hT
      have HF := Lib.hid (fun W => fine_calls x A2 c2 W)
      cases hf : fineB x
      · rw [hf] at HF HET
        have hm : mayB l = false := by
          unfold mayB
          rw [each_false l (k + 1) HET.out]
          rfl
        have HM := Lib.hid hm
        clear hf hm
        go_wp2_with fail
        refine (HF.out _).mono ?_
        rintro e w1 ⟨rfl, hb1⟩
        have hbz := Lib.hid (below_then hb'.out hb'.out.size hb1)
        clear hb1
        go_wp2
        go_ret
        exact ⟨by rw [HM.out]; rfl, hbz.out⟩
      · rw [hf] at HF HET
        have hfl : (x.f2.length : Int) ≤ 1048576 := by
          unfold fineB at hf
          simp only [Bool.and_eq_true, decide_eq_true_eq] at hf
          omega
        have hszi : (sizeL (l.take k) : Int) ≤ 1048576000000000000 := by omega
        clear hf
        go_wp2_with fail
        refine (HF.out _).mono ?_
        rintro e w1 ⟨rfl, hb1⟩
        have qb1 := blk_below (blk_new wr (.cells #[.int .u8 x.f0, .string x.f1, .slice A2 x.f2.length c2] 37)) hb1
        have q1 : w1.cell? ⟨wr.heap.size, 1, none⟩ = some (.string x.f1) := (blk_cell (blk_below (blk_new wr _) hb1) 1).trans rfl
        have q2 : w1.cell? ⟨wr.heap.size, 2, none⟩ = some (.slice A2 x.f2.length c2) := (blk_cell (blk_below (blk_new wr _) hb1) 2).trans rfl
        have hown1 := Lib.hid (hown'.out.kept (grown_of_below hb1 none) (by simp))
        have hbz := Lib.hid (below_then hb'.out hb'.out.size hb1)
        clear hb1
        have hkey : keyOf Tryz.prog 9 (.string x.f1) = some (keyL (itName x)) := keyOf_string_mk Tryz.underlying9 hsx
        obtain ⟨c, hrun, hat, _⟩ := hown1.out.lookup_int key_law Tryz.underlying41 Tryz.underlying3 (zero_int _) hkey
        have HK := Lib.hid hkey
        clear hkey
        rw [HT.out.at_] at hat
        have hcv : (if itName x ∈ List.map itName (List.take k l) then (1 : Int) else 0) = c := by
          injection hat with e; injection e
        clear hat
        by_cases hm : itName x ∈ List.map itName (List.take k l)
        · rw [if_pos hm] at hcv
          subst hcv
          have hmm' : mayB l = false := by
            have := HET.out
            rw [decide_eq_false (fun h => h hm)] at this
            unfold mayB
            rw [each_false l (k + 1) this]
            rfl
          have HM := Lib.hid hmm'
          clear hmm' hm
          go_wp2
          go_ret
          exact ⟨by rw [HM.out]; rfl, hbz.out⟩
        · rw [if_neg hm] at hcv
          subst hcv
          have HE1 : Hid (eachB (l.take (k + 1)) = true) := Lib.hid (by rw [HET.out, decide_eq_true hm]; rfl)
          clear hm
          have qb := Lib.hid qb1
          clear qb1
          go_wp2_with (at_mapUpdate; refine wpList_mapUpdate_own _ rfl _ _ _ 41 rfl 9 3 key_law Tryz.underlying41 _ w.heap.size k _ rfl hown1.out (by unfold maxLen; omega) _ _ _ rfl rfl HK.out _ [] (plainElem_int Tryz.underlying3 (by decide)) ?_)
          intro w2 hown2 hg2
          have qb2 := blk_grown qb.out hg2 (by simp; omega)
          have q22 : w2.cell? ⟨wr.heap.size, 2, none⟩ = some (.slice A2 x.f2.length c2) := (blk_cell qb2 2).trans rfl
          have HO2 := Lib.hid hown2
          have hb2 := Lib.hid (hbz.out.grown hg2 hbz.out.size (fun j hj => by cases hj; exact Nat.le_refl _))
          clear hown2 hg2 qb2 q1 q2 hrun
          go_wp2
          go_roundw
          case rel =>
            refine ⟨k + 1, _, hlt, by go_num, ?_, HE1.out, ?_, HO2.out, hb2.out⟩
            · rw [HSZ.out]
              go_num
            · rw [List.take_succ_eq_append_getElem hlt, List.map_append, HXX.out]
              exact HT.out.put (itName x)
          case measure =>
            simp [intOf]
            exact Nat.sub_lt_sub_left hlt (Nat.lt_succ_self k)
    · obtain rfl : k = l.length := by omega
      rw [List.take_length] at hE ⊢
      have hlim : sizeL l ≤ 1048576 → l.length ≤ 256 → (fileL l).length ≤ 140737488355328 := fun h1 h2 => by
        have := file_le l hE
        omega
      have HB := Lib.hid hb
      have hG1 := Lib.hid (Gl.below hb hG)
      have HRr := Lib.hid (Kd.C_below HR.out hb)
      clear hb hown hT
      by_cases h1 : l.length ≤ 256
      · by_cases h2 : sizeL l ≤ 1048576
        · have HFC := Lib.hid (file_calls l HO.out (hlim h2 h1) A0 c0 wr hG1.out HRr.out hc)
          have HM : Hid (mayB l = decide ((fileL l).length ≤ 1048576)) := Lib.hid (by unfold mayB; rw [hE, decide_eq_true h1, decide_eq_true h2]; rfl)
          have h1' : (l.length : Int) ≤ 256 := by omega
          have h2' : (sizeL l : Int) ≤ 1048576 := by omega
          clear hlim hE
          go_wp2_with fail
          refine HFC.out.mono ?_
          rintro e w1 ⟨v, rfl, hv, hbv⟩
          obtain ⟨Av, cv, rfl⟩ := Kd.R_slice hv
          have HB1 := Lib.hid (below_then HB.out HB.out.size hbv)
          clear hv hbv
          go_wp2
          go_ret
          exact ⟨by rw [HM.out]; simp; omega, HB1.out⟩
        · have HM : Hid (mayB l = false) := Lib.hid (by unfold mayB; rw [decide_eq_false h2]; simp)
          have h1' : (l.length : Int) ≤ 256 := by omega
          have h2' : ¬ (sizeL l : Int) ≤ 1048576 := by omega
          clear hlim hE
          go_wp2
          go_ret
          exact ⟨by rw [HM.out]; rfl, HB.out⟩
      · have HM : Hid (mayB l = false) := Lib.hid (by unfold mayB; rw [decide_eq_false h1]; simp)
        have h1' : ¬ (l.length : Int) ≤ 256 := by omega
        clear hlim hE
        go_wp2
        go_ret
        exact ⟨by rw [HM.out]; rfl, HB.out⟩
end Go.Proofs.YtfnahihdkbgleaaGreatDoor.Z
