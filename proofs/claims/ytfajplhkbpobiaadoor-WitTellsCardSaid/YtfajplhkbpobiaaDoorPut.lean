/- wit.Put. -/
import Derived.Test.YtfajplhkbpobiaaDoorWrite
import Derived.Lib.AppendStr
import Derived.Lib.SlBytesConst
import Derived.Lib.SmallJoins
import Derived.Lib.SliceRun
namespace Go.Proofs.YtfajplhkbpobiaaDoor.Z
set_option linter.unusedVariables false
open Go.RowKit Go.Proofs.YtfajplhkbpobiaaDoorW.PrintWords Go.Proofs.YtfajplhkbpobiaaDoorW.PrintWords.Kd
/-- A row's line. -/
def rowB (l : List Int) : List Int := l.map dg ++ [10]
def rowOkB (l : List Int) : Bool := l.all (fun v => decide (v ≤ 2)) && decide (l.length ≤ 16384)
theorem rowF_ok (l : List Int) : (rowF l).2 = rowOkB l ∧ (rowOkB l = true → (rowF l).1 = rowB l) := by
  unfold rowF rowOkB rowB
  split
  · rename_i h
    rw [h]
    exact ⟨rfl, fun _ => rfl⟩
  · rename_i h
    rw [Bool.not_eq_true] at h
    rw [h]
    exact ⟨rfl, fun h => by simp at h⟩
def headP (bad : Int) : List Int := [49, 10, 98] ++ toI (Lib.itoa bad) ++ [10]
def putL (bad : Int) (init : List Int) (fr : List (List Int)) : List Int := headP bad ++ (init :: fr).flatMap rowB ++ [46, 10]
def fitB (init : List Int) (fr : List (List Int)) : Bool := rowOkB init && fr.all (fun l => rowOkB l && decide (l.length = (fr.headD []).length))
def putF (bad : Int) (init : List Int) (fr : List (List Int)) : List Int × Int :=
  if bad < 0 ∨ 1024 ≤ bad ∨ fr.length = 0 ∨ 256 < fr.length then ([], 2) else if fitB init fr then (putL bad init fr, 0) else ([], 2)
theorem fit_of {init : List Int} {fr : List (List Int)} (h : ∀ j x, (init :: fr)[j]? = some x → rowOkB x = true ∧ (0 < j → x.length = (fr.headD []).length)) : fitB init fr = true := by
  unfold fitB
  rw [(h 0 init rfl).1, Bool.true_and, List.all_eq_true]
  intro x hx
  obtain ⟨j, hj, rfl⟩ := List.mem_iff_getElem.1 hx
  have := h (j + 1) fr[j] (by simp [hj])
  rw [this.1, decide_eq_true (this.2 (by omega))]
  rfl
theorem fit_not {init : List Int} {fr : List (List Int)} {j : Nat} {x : List Int} (hx : (init :: fr)[j]? = some x) (h : rowOkB x = false ∨ (0 < j ∧ x.length ≠ (fr.headD []).length)) : fitB init fr = false := by
  cases hf : fitB init fr
  · rfl
  · exfalso
    unfold fitB at hf
    rw [Bool.and_eq_true, List.all_eq_true] at hf
    cases j with
    | zero =>
      obtain rfl : init = x := by simpa using hx
      rcases h with h | h
      · rw [hf.1] at h; cases h
      · omega
    | succ j =>
      have hm : x ∈ fr := List.mem_of_getElem? (by simpa using hx)
      have := hf.2 x hm
      rw [Bool.and_eq_true, decide_eq_true_eq] at this
      rcases h with h | h
      · rw [this.1] at h; cases h
      · exact h.2 this.2
structure PutAt (w wr : World) (g : Nat) (cur bx : Array Value) (v : Value) (xs hd : List Int) (rows : List (List Int)) (first k : Nat) : Prop where
  own : Kd.R (Kd.int .u8) 5 wr w.heap.size (fun _ => True) v xs
  row : wr.heap[g]? = some (.cells cur 22 (0, 0))
  box : wr.heap[w.heap.size]? = some (.cells bx 25 (0, 0))
  below : Below w.heap.size w wr
  val : xs = hd ++ (rows.take k).flatMap rowB
  good : ∀ j x, j < k → rows[j]? = some x → rowOkB x = true ∧ (0 < j → x.length = first)
  lim : xs.length ≤ 30 + k * 16385
theorem rowB_len (x : List Int) (h : rowOkB x = true) : (rowB x).length ≤ 16385 := by
  unfold rowOkB at h
  rw [Bool.and_eq_true, decide_eq_true_eq] at h
  unfold rowB
  rw [List.length_append, List.length_map]
  simp
  omega
theorem PutAt.step {w wr w1 w2 : World} {g : Nat} {cur bx : Array Value} {v v' : Value} {xs hd : List Int} {rows : List (List Int)} {first k : Nat} {x : List Int} (h : PutAt w wr g cur bx v xs hd rows first k) (hx : rows[k]? = some x) (hok : rowOkB x = true) (hf : 0 < k → x.length = first)
    (hb1 : Below wr.heap.size wr w1) (hR : Kd.R (Kd.int .u8) 5 w2 w.heap.size (fun _ => True) v' (xs ++ rowB x)) (hb2 : Below w.heap.size w w2) (hg2 : w1.grownBy w2 v.ownBlock) : PutAt w w2 g cur bx v' (xs ++ rowB x) hd rows first (k + 1) := by
  have hR1 := Kd.R_below h.own hb1
  have hne : ∀ b, (∃ cs t, w1.heap[b]? = some (.cells cs t (0, 0)) ∧ t ≠ 5) → some b ≠ v.ownBlock := by
    rintro b ⟨cs, t, hc, ht⟩ e
    obtain ⟨cs2, hc2⟩ := Kd.R_typed hR1 b e.symm
    exact blk_ne hc hc2 ht rfl
  have r1 := blk_below h.row hb1
  have b1 := blk_below h.box hb1
  have hkl : k < rows.length := (List.getElem?_eq_some_iff.1 hx).1
  refine ⟨hR, blk_grown r1 hg2 (hne _ ⟨_, _, r1, by decide⟩), blk_grown b1 hg2 (hne _ ⟨_, _, b1, by decide⟩), hb2, ?_, fun j y hj hy => ?_, ?_⟩
  · rw [List.take_add_one, hx, h.val, List.flatMap_append, List.append_assoc]
    simp
  · rcases Nat.lt_or_eq_of_le (Nat.le_of_lt_succ hj) with hlt | rfl
    · exact h.good j y hlt hy
    · obtain rfl := Option.some.inj (hx.symm.trans hy)
      exact ⟨hok, hf⟩
  · have h1 := h.lim
    have h2 := rowB_len x hok
    rw [List.length_append]
    omega
theorem reads_new (w : World) (xs : List Int) (C : Array Value) (hC : C = (nums .u8 xs).toArray) (e : TypeId) (fz : Nat × Nat) (hl : xs.length ≤ 9223372036854775807) :
    Kd.C (Kd.int .u8) (w.alloc (.cells C e fz)) (some ⟨w.heap.size, 0, none⟩) xs.length xs := by
  subst hC
  refine ⟨rfl, hl, fun _ => ⟨_, rfl, fun j p hj => ⟨[.int .u8 p], rfl, rfl, fun i u hu => ?_⟩⟩⟩
  have hi : i = 0 := by
    have := (List.getElem?_eq_some_iff.1 hu).1
    simpa using this
  subst hi
  simp only [List.getElem?_cons_zero, Option.some.injEq] at hu
  subst hu
  rw [show (Kd.int .u8).sz = 1 from rfl, Nat.mul_one, Nat.add_zero, Lib.add_plain, Nat.zero_add]
  refine (cell_of_row _ _ _ _ _ _ (blk_new w _)).trans ?_
  simp [nums, hj]
theorem info_rows : (Tryd.prog.info? 22).map (fun i => (i.zero, i.size, i.bytes)) = some (some (.slice none 0 0), 1, 24) := by kernel_rfl
theorem info_u8c : ∃ i, Tryd.prog.info? 5 = some i ∧ i.zero = some (.int .u8 0) ∧ i.size = 1 ∧ i.bytes = 1 := by
  have h : (Tryd.prog.info? 5).map (fun i => (i.zero, i.size, i.bytes)) = some (some (.int .u8 0), 1, 1) := by kernel_rfl
  obtain ⟨i, hi, hq⟩ := Option.map_eq_some_iff.1 h
  simp only [Prod.mk.injEq] at hq
  exact ⟨i, hi, hq.1, hq.2.1, hq.2.2⟩
theorem info_parts' : (Tryd.prog.info? 22).map (fun i => (i.zero, i.size, i.bytes)) = some (some (.slice none 0 0), 1, 24) → ∃ i, Tryd.prog.info? 22 = some i ∧ i.zero = some (.slice none 0 0) ∧ i.size = 1 ∧ i.bytes = 24 := by
  intro h
  obtain ⟨i, hi, hq⟩ := Option.map_eq_some_iff.1 h
  simp only [Prod.mk.injEq] at hq
  exact ⟨i, hi, hq.1, hq.2.1, hq.2.2⟩
theorem put_early (bad : Int) (init : List Int) (fr : List (List Int)) (h : bad < 0 ∨ 1024 ≤ bad ∨ fr.length = 0 ∨ 256 < fr.length) : putF bad init fr = ([], 2) := if_pos h
set_option maxHeartbeats 3200000 in
set_option maxRecDepth 100000 in
theorem put_bad (bad : Int) (init : List Int) (fr : List (List Int)) (h : bad < 0 ∨ 1024 ≤ bad ∨ fr.length = 0 ∨ 256 < fr.length) (A1 : Option Addr) (c1 : Nat) (A2 : Option Addr) (c2 : Nat) (w : World) :
    Calls Tryd.prog 9 #[.agg #[.int .i64 bad, .slice A1 init.length c1, .slice A2 fr.length c2]] w fun e w' => e = .returned (.tuple #[.slice none 0 0, .int .i64 2]) ∧ Below w.heap.size w w' := by
  have hu := Tryd.underlying25
  have HB := Lib.hid ((Below.refl w.heap.size w).alloc (Nat.le_refl _) (.cells #[.int .i64 bad, .slice A1 init.length c1, .slice A2 fr.length c2] 25))
  by_cases h1 : bad < 0
  · clear h
    go_enter Tryd.func9, Tryd.ntmps9
    go_wp2_with fail
    go_ret2
    exact ⟨rfl, HB.out⟩
  · by_cases h2 : 1024 ≤ bad
    · clear h
      go_enter Tryd.func9, Tryd.ntmps9
      go_wp2_with fail
      go_ret2
      exact ⟨rfl, HB.out⟩
    · by_cases h3 : fr.length = 0
      · have h3b : ((fr.length : Int) == 0) = true := beq_iff_eq.2 (by omega)
        clear h h3
        go_enter Tryd.func9, Tryd.ntmps9
        go_wp2_with fail
        go_ret2
        exact ⟨rfl, HB.out⟩
      · have h3b : ((fr.length : Int) == 0) = false := beq_eq_false_iff_ne.2 (by omega)
        have h4 : 256 < (fr.length : Int) := by omega
        clear h
        go_enter Tryd.func9, Tryd.ntmps9
        go_wp2_with fail
        go_ret2
        exact ⟨rfl, HB.out⟩
set_option maxHeartbeats 6400000 in
set_option maxRecDepth 100000 in
theorem put_go (n : Nat) (init : List Int) (fr : List (List Int)) (hn : n < 1024) (h3 : fr.length ≠ 0) (h4 : fr.length ≤ 256) (hli : ∀ x ∈ init :: fr, x.length ≤ 140737488351232 ∧ ∀ c ∈ x, 0 ≤ c ∧ c < 256) (A1 : Option Addr) (c1 : Nat) (ad : Addr) (c2 : Nat) (w : World) (hG : Gl w)
    (hr1 : Kd.C (Kd.int .u8) w A1 init.length init) (hc1 : init.length ≤ c1) (hr2 : Kd.C (Kd.slice 5 (Kd.int .u8)) w (some ad) fr.length fr) (hc2 : fr.length ≤ c2) :
    Calls Tryd.prog 9 #[.agg #[.int .i64 (n : Int), .slice A1 init.length c1, .slice (some ad) fr.length c2]] w fun e w' => ∃ v, e = .returned (.tuple #[v, .int .i64 (putF n init fr).2]) ∧ Kd.R (Kd.int .u8) 5 w' w.heap.size (fun _ => True) v (putF n init fr).1 ∧ Below w.heap.size w w' := by
  have hu := Tryd.underlying25
  have HB := Lib.hid ((Below.refl w.heap.size w).alloc (Nat.le_refl _) (.cells #[.int .i64 (n : Int), .slice A1 init.length c1, .slice (some ad) fr.length c2] 25))
  have HBX := Lib.hid (blk_new w (.cells #[.int .i64 (n : Int), .slice A1 init.length c1, .slice (some ad) fr.length c2] 25))
  have HF : Hid (putF n init fr = if fitB init fr then (putL n init fr, 0) else ([], 2)) := Lib.hid (by unfold putF; rw [if_neg (by omega)])
  obtain ⟨inner, hreps, hcell⟩ := ReadsRow.inner_ hr2
  have HIC := Lib.hid hcell
  have hil : inner.length = fr.length := by have := hreps.1; simpa [Kd.slice] using this
  have HALL : Hid (∀ (j : Nat) (x : List Int), (init :: fr)[j]? = some x → ∃ A c, ((Value.slice A1 init.length c1) :: inner)[j]? = some (Value.slice A x.length c) ∧ x.length ≤ c ∧ Kd.C (Kd.int .u8) w A x.length x) := Lib.hid (by
    intro j x hx
    cases j with
    | zero =>
      obtain rfl : init = x := by simpa using hx
      exact ⟨A1, c1, rfl, hc1, hr1⟩
    | succ j =>
      have hx' : fr[j]? = some x := by simpa using hx
      obtain ⟨A, c, hp, hl, hC⟩ := hreps.2 j x hx'
      refine ⟨A, c, ?_, hl, hC⟩
      have h0 : ((inner.drop (j * 1)).take 1)[0]? = some (Value.slice A x.length c) := by
        have : ((inner.drop (j * (Kd.slice 5 (Kd.int .u8)).sz)).take (Kd.slice 5 (Kd.int .u8)).sz) = [Value.slice A x.length c] := hp
        rw [show ((inner.drop (j * 1)).take 1) = [Value.slice A x.length c] from this]
        rfl
      simpa [List.getElem?_take, List.getElem?_drop] using h0)
  have HONE : Hid (∀ u ∈ inner, u.oneCell' = true) := Lib.hid (Kd.reps_one hreps (by decide) (fun p c h => (Kd.slice 5 (Kd.int .u8)).K_one h))
  have HG := Lib.hid hG
  have HLI := Lib.hid hli
  clear hr1 hr2 hreps hcell hG hli
  have kc := fun (C : Array Value) (n' c : Nat) => Joins.run_convert_bytes_const_at (P := Tryd.prog) (w.alloc (.cells #[.int .i64 (n : Int), .slice A1 init.length c1, .slice (some ad) fr.length c2] 25)) 22 5 C n' c (w.heap.size + 1) (by rw [World.size_alloc]) Tryd.underlying22 Tryd.underlying5
  have hb1 : ¬ (n : Int) < 0 := by omega
  have hb2 : ¬ 1024 ≤ (n : Int) := by omega
  have hb3 : ((fr.length : Int) == 0) = false := beq_eq_false_iff_ne.2 (by omega)
  have hb4 : ¬ 256 < (fr.length : Int) := by omega
  have hw1 : IntKind.u32.wrap (n : Int) = (n : Int) := by rw [IntKind.wrap_u32]; omega
  have hm4 := h4
  have HNE : Hid (fr.length ≠ 0) := Lib.hid h3
  clear h3
  go_enter Tryd.func9, Tryd.ntmps9
  go_wp2_with fail
  have hA : Below w.heap.size w (((w.alloc (.cells #[.int .i64 (n : Int), .slice A1 init.length c1, .slice (some ad) fr.length c2] 25)).alloc (.cells #[.int .u8 49, .int .u8 10, .int .u8 98] 5 (3, 4))).alloc (.cells #[.int .u32 (n : Int)] 42)) := below_alloc (below_alloc HB.out _) _
  have hCc : Kd.C (Kd.int .u8) (((w.alloc (.cells #[.int .i64 (n : Int), .slice A1 init.length c1, .slice (some ad) fr.length c2] 25)).alloc (.cells #[.int .u8 49, .int .u8 10, .int .u8 98] 5 (3, 4))).alloc (.cells #[.int .u32 (n : Int)] 42)) (some ⟨w.heap.size + 1, 0, none⟩) ([49, 10, 98] : List Int).length [49, 10, 98] := by
    have := reads_new (w.alloc (.cells #[.int .i64 (n : Int), .slice A1 init.length c1, .slice (some ad) fr.length c2] 25)) [49, 10, 98] _ rfl 5 (3, 4) (by decide)
    rw [World.size_alloc] at this
    exact Kd.C_alloc this _
  have hcn : (((w.alloc (.cells #[.int .i64 (n : Int), .slice A1 init.length c1, .slice (some ad) fr.length c2] 25)).alloc (.cells #[.int .u8 49, .int .u8 10, .int .u8 98] 5 (3, 4))).alloc (.cells #[.int .u32 (n : Int)] 42)).cell? ⟨w.heap.size + 1 + 1, 0, none⟩ = some (.int .u32 (n : Int)) := by
    have := blk_cell (blk_new ((w.alloc (.cells #[.int .i64 (n : Int), .slice A1 init.length c1, .slice (some ad) fr.length c2] 25)).alloc (.cells #[.int .u8 49, .int .u8 10, .int .u8 98] 5 (3, 4))) (.cells #[.int .u32 (n : Int)] 42)) 0
    rw [World.size_alloc, World.size_alloc] at this
    exact this.trans rfl
  have hbx := blk_alloc (blk_alloc HBX.out (.cells #[.int .u8 49, .int .u8 10, .int .u8 98] 5 (3, 4))) (.cells #[.int .u32 (n : Int)] 42)
  generalize (((w.alloc (.cells #[.int .i64 (n : Int), .slice A1 init.length c1, .slice (some ad) fr.length c2] 25)).alloc (.cells #[.int .u8 49, .int .u8 10, .int .u8 98] 5 (3, 4))).alloc (.cells #[.int .u32 (n : Int)] 42)) = W3 at *
  refine (write_calls [49, 10, 98] n (by omega) (by decide) (some ⟨w.heap.size + 1, 0, none⟩) 3 ⟨w.heap.size + 1 + 1, 0, none⟩ 1 W3 (Gl.below hA HG.out) hCc (by decide) hcn).mono ?_
  rintro e w4 ⟨v4, rfl, hR4, hb4⟩
  have HB4 := Lib.hid (below_step hA hb4)
  have HX4 := Lib.hid (blk_below hbx hb4)
  have HR4 := Lib.hid (Kd.R_lower hR4 hA.size)
  clear hR4 hb4 hbx hcn hCc hA kc HB HBX
  have xb1 : w4.cell? ⟨w.heap.size, 1, none⟩ = some (.slice A1 init.length c1) := (blk_cell HX4.out 1).trans rfl
  have xb2 : w4.cell? ⟨w.heap.size, 2, none⟩ = some (.slice (some ad) fr.length c2) := (blk_cell HX4.out 2).trans rfl
  have xb2' : (w4.alloc (.cells #[.slice A1 init.length c1] 22)).cell? ⟨w.heap.size, 2, none⟩ = some (.slice (some ad) fr.length c2) := Lib.cell?_alloc_some _ xb2
  obtain ⟨i0, hi0, hz0, hz1, hz2⟩ := info_parts' info_rows
  have HIN : Hid (∀ j u, inner[j]? = some u → w4.cell? (ad.add j) = some u) := Lib.hid (fun j u hu => (HB4.out.cell (World.block_lt_of_cell? w _ (HIC.out j u hu))).trans (HIC.out j u hu))
  go_wp2_with (at_builtin; go_loud (refine wpList_append_own _ rfl _ _ 23 rfl w.heap.size 22 i0 _ 1 24 Tryd.underlying23 hi0 hz0 hz1 hz2 rfl (by decide) _ _ _ rfl (World.ownsRow_lit w4 #[.slice A1 init.length c1] 1 HB4.out.size (by decide) rfl) ad fr.length c2 inner rfl ?qc1 ?qc2 HONE.out ?qc4 ?qc5 ?qc6 ?_))
  case qc1 => omega
  case qc2 =>
    intro j u hj
    exact Lib.cell?_alloc_some _ (HIN.out j u hj)
  case qc4 => unfold maxLen; omega
  case qc5 => omega
  case qc6 => exact (below_alloc HB4.out _).size
  intro v7 w7 hown hgrow _
  rcases hown.2 with ⟨_, h0⟩ | ⟨g, cap, cur, rfl, hg, hh, hcap, hcm, hsz, htk⟩
  · omega
  have hb7 : Below w4.heap.size w4 w7 := ((Below.refl _ w4).alloc (Nat.le_refl _) _).grown hgrow (below_alloc (Below.refl _ _) _).size (by intro k hk; simp [Value.ownBlock] at hk; omega)
  have HALLc : Hid (∀ (j : Nat) (x : List Int), (init :: fr)[j]? = some x → ∃ A c, cur[j]? = some (Value.slice A x.length c) ∧ x.length ≤ c ∧ Kd.C (Kd.int .u8) w A x.length x) := Lib.hid (fun j x hx => by
    obtain ⟨A, c, hp, hl, hC⟩ := HALL.out j x hx
    refine ⟨A, c, ?_, hl, hC⟩
    have hjl : j < 1 + fr.length := by
      have := (List.getElem?_eq_some_iff.1 hx).1
      simp at this
      omega
    have : (cur.toList.take ((1 + fr.length) * 1))[j]? = some (Value.slice A x.length c) := by
      rw [htk]
      exact hp
    rw [List.getElem?_take, if_pos (by omega)] at this
    simpa using this)
  have hP : PutAt w w7 g cur #[.int .i64 (n : Int), .slice A1 init.length c1, .slice (some ad) fr.length c2] v4 ([49, 10, 98] ++ toI (Lib.itoa (n : Int)) ++ [10]) ([49, 10, 98] ++ toI (Lib.itoa (n : Int)) ++ [10]) (init :: fr) (fr.headD []).length 0 := {
    own := Kd.R_below HR4.out hb7
    row := hh
    box := blk_below HX4.out hb7
    below := below_step HB4.out hb7
    val := by simp
    good := fun j x hj => absurd hj (by omega)
    lim := by
      have : (toI (Lib.itoa (n : Int))).length ≤ 21 := by
        unfold toI
        rw [List.length_map]
        exact Lib.itoa_length_le (n : Int) (by omega) (by omega)
      simp only [List.length_append, List.length_cons, List.length_nil]
      omega }
  have HP0 := Lib.hid hP
  have hfirst : Hid (∃ A c, (∀ wr, Below w.heap.size w wr → wr.cell? ad = some (Value.slice A (fr.headD []).length c))) := Lib.hid (by
    cases fr with
    | nil => exact absurd (rfl : ([] : List (List Int)).length = 0) HNE.out
    | cons y t =>
      obtain ⟨A, c, hp, _, _⟩ := HALL.out 1 y rfl
      refine ⟨A, c, fun wr hb => ?_⟩
      have h1 := HIC.out 0 _ (by simpa using hp)
      rw [show ad.add 0 = ad from by cases ad; rfl] at h1
      exact (hb.cell (World.block_lt_of_cell? w _ h1)).trans h1)
  obtain ⟨Af, cf, hff⟩ := hfirst.out
  have HFF := Lib.hid hff
  clear hff hP hown hgrow hh htk hsz hcm hb7 HR4 HX4 HB4 HIN HONE xb1 xb2 xb2' hi0 hz0 hz1 hz2
  obtain ⟨first, hfst⟩ : ∃ f, f = (fr.headD []).length := ⟨_, rfl⟩
  rw [← hfst] at HP0
  have HFF2 : Hid (∀ wr, Below w.heap.size w wr → wr.cell? ad = some (Value.slice Af first cf)) := Lib.hid (by rw [hfst]; exact HFF.out)
  have HFE := Lib.hid hfst
  clear hfst HFF hfirst
  go_wp2_with fail
  go_loopw [4, 43] (fun v i wr => ∃ (k : Nat) (xs : List Int), k ≤ 1 + fr.length ∧ i = .int .i64 (k : Int) ∧ Hid (PutAt w wr g cur #[.int .i64 (n : Int), .slice A1 init.length c1, .slice (some ad) fr.length c2] v xs ([49, 10, 98] ++ toI (Lib.itoa (n : Int)) ++ [10]) (init :: fr) first k)) (fun _ i _ => 1 + fr.length - (intOf i).toNat)
  case atStart => exact ⟨0, _, Nat.zero_le _, rfl, HP0⟩
  case round =>
    clear HP0
    obtain ⟨k, xs, hk, rfl, HP⟩ := hrel
    by_cases hlt : k < 1 + fr.length
    · have hlt' : (k : Int) < ((1 + fr.length : Nat) : Int) := Int.ofNat_lt.2 hlt
      have hkl : k < (init :: fr).length := by simp; omega
      have hxk : (init :: fr)[k]? = some (init :: fr)[k] := List.getElem?_eq_getElem hkl
      obtain ⟨hl1, hl2⟩ := HLI.out _ (List.getElem_mem hkl)
      generalize (init :: fr)[k] = x at *
      obtain ⟨A, c, hp, hlc, hC⟩ := HALLc.out k x hxk
      have hx : wr.cell? ⟨g, k, none⟩ = some (.slice A x.length c) := (blk_cell HP.out.row k).trans hp
      have HRW := Lib.hid (row_calls x hl1 hl2 A c wr (Kd.C_below hC HP.out.below) hlc)
      have HXK := Lib.hid hxk
      have hkf : k ≤ 256 := by omega
      obtain ⟨hr2, hr1⟩ := rowF_ok x
      clear hp hC hl2 hxk
      cases hok : rowOkB x
      · rw [hr2, hok] at HRW
        have HF2 : Hid (putF n init fr = ([], 2)) := Lib.hid (by rw [HF.out, fit_not HXK.out (.inl hok)]; rfl)
        clear hr1 hr2 hok
        go_wp2_with fail
        refine HRW.out.mono ?_
        rintro e w8 ⟨v8, rfl, hR8, hb8⟩
        obtain ⟨A8, c8, rfl⟩ := Kd.R_slice hR8
        have hbw8 := Lib.hid (below_then HP.out.below HP.out.below.size hb8)
        clear hR8 hb8 HRW
        go_wp2_with fail
        go_ret2
        rw [HF2.out]
        exact ⟨_, rfl, Kd.R_nil _ _ _ _ _, hbw8.out⟩
      · rw [hr2, hr1 hok, hok] at HRW
        have hlk : (xs.length + (rowB x).length) * 1 ≤ 140737488355328 := by
          have := HP.out.lim
          have := rowB_len x hok
          omega
        clear hr1 hr2
        by_cases hk0 : k = 0
        · have HKF : Hid (0 < k → x.length = first) := Lib.hid (fun h => absurd h (by omega))
          have hkz : ¬ (0 : Int) < (k : Int) := by omega
          clear hk0
          go_wp2_with fail
          refine HRW.out.mono ?_
          rintro e w8 ⟨v8, rfl, hR8, hb8⟩
          obtain ⟨A8, c8, rfl, hc8, hC8⟩ := Kd.R_reads hR8
          have hbw8 := Lib.hid (below_then HP.out.below HP.out.below.size hb8)
          have xf := HFF2.out w8 hbw8.out
          have xb2 : w8.cell? ⟨w.heap.size, 2, none⟩ = some (.slice (some ad) fr.length c2) := (blk_cell (blk_below HP.out.box hb8) 2).trans rfl
          have HB8 := Lib.hid hb8
          have HC8 := Lib.hid hC8
          clear hR8 hb8 hC8 HRW
          go_wp2_with (at_builtin; refine Kd.R_append_rows (Kd.int .u8) (w0 := w) w.heap.size rfl (.tmp 69) (.tmp 70) 22 5 (.int .u8 0) 1 rfl Tryd.underlying22 info_u8b rfl (by decide) (by decide) u4 xs (rowB x) _ _ _ (fun _ => True) (fun _ => False) rfl rfl (Kd.R_below HP.out.own HB8.out) HC8.out (fun _ _ h => h) (fun _ h => h.elim) (fun _ _ => trivial) hbw8.out hbw8.out.size hlk ?_)
          intro v9 w9 hR9 hB9 hg9 _
          have HP9 := Lib.hid (HP.out.step HXK.out hok HKF.out HB8.out hR9 hB9 hg9)
          clear hR9 hB9 hg9 HP HB8 HC8 hbw8 xf xb2 hlk HKF
          go_wp2_with fail
          go_roundw
          case rel => exact ⟨k + 1, _, hlt, by go_num, HP9⟩
          case measure =>
            simp [intOf]
            omega
        · have hkz : (0 : Int) < (k : Int) := by omega
          have h0l : (0 : Int) < (fr.length : Int) := by have := HNE.out; omega
          by_cases hle : x.length = first
          · have HKF : Hid (0 < k → x.length = first) := Lib.hid (fun _ => hle)
            have hlb : ((x.length : Int) != (first : Int)) = false := by rw [hle]; exact bne_self_eq_false _
            clear hk0 hle
            go_wp2_with fail
            refine HRW.out.mono ?_
            rintro e w8 ⟨v8, rfl, hR8, hb8⟩
            obtain ⟨A8, c8, rfl, hc8, hC8⟩ := Kd.R_reads hR8
            have hbw8 := Lib.hid (below_then HP.out.below HP.out.below.size hb8)
            have xf := HFF2.out w8 hbw8.out
            have xb2 : w8.cell? ⟨w.heap.size, 2, none⟩ = some (.slice (some ad) fr.length c2) := (blk_cell (blk_below HP.out.box hb8) 2).trans rfl
            have HB8 := Lib.hid hb8
            have HC8 := Lib.hid hC8
            clear hR8 hb8 hC8 HRW
            go_wp2_with (at_builtin; refine Kd.R_append_rows (Kd.int .u8) (w0 := w) w.heap.size rfl (.tmp 69) (.tmp 70) 22 5 (.int .u8 0) 1 rfl Tryd.underlying22 info_u8b rfl (by decide) (by decide) u4 xs (rowB x) _ _ _ (fun _ => True) (fun _ => False) rfl rfl (Kd.R_below HP.out.own HB8.out) HC8.out (fun _ _ h => h) (fun _ h => h.elim) (fun _ _ => trivial) hbw8.out hbw8.out.size hlk ?_)
            intro v9 w9 hR9 hB9 hg9 _
            have HP9 := Lib.hid (HP.out.step HXK.out hok HKF.out HB8.out hR9 hB9 hg9)
            clear hR9 hB9 hg9 HP HB8 HC8 hbw8 xf xb2 hlk HKF
            go_wp2_with fail
            go_roundw
            case rel => exact ⟨k + 1, _, hlt, by go_num, HP9⟩
            case measure =>
              simp [intOf]
              omega
          · have hlb : ((x.length : Int) != (first : Int)) = true := bne_iff_ne.2 (by omega)
            have HF2 : Hid (putF n init fr = ([], 2)) := Lib.hid (by rw [HF.out, fit_not HXK.out (.inr ⟨by omega, by rw [← HFE.out]; exact hle⟩)]; rfl)
            clear hk0 hle
            go_wp2_with fail
            refine HRW.out.mono ?_
            rintro e w8 ⟨v8, rfl, hR8, hb8⟩
            obtain ⟨A8, c8, rfl, hc8, hC8⟩ := Kd.R_reads hR8
            have hbw8 := Lib.hid (below_then HP.out.below HP.out.below.size hb8)
            have xf := HFF2.out w8 hbw8.out
            have xb2 : w8.cell? ⟨w.heap.size, 2, none⟩ = some (.slice (some ad) fr.length c2) := (blk_cell (blk_below HP.out.box hb8) 2).trans rfl
            clear hR8 hb8 hC8 HRW
            go_wp2_with fail
            go_ret2
            rw [HF2.out]
            exact ⟨_, rfl, Kd.R_nil _ _ _ _ _, hbw8.out⟩
    · obtain rfl : k = 1 + fr.length := by omega
      have hval := HP.out.val
      rw [List.take_of_length_le (by simp; omega)] at hval
      have hfit := fit_of (init := init) (fr := fr) (fun j x hx => by
        have hjl := (List.getElem?_eq_some_iff.1 hx).1
        simp at hjl
        have := HP.out.good j x (by omega) hx
        rw [HFE.out] at this
        exact this)
      have HF2 : Hid (putF n init fr = (xs ++ [46, 10], 0)) := Lib.hid (by
        rw [HF.out, hfit, hval]
        rfl)
      have hlim := HP.out.lim
      have hown := Kd.own_of_R HP.out.own
      obtain ⟨iu, hiu, hu0, hu1, hu2⟩ := info_u8c
      have HO := Lib.hid hown
      clear hval hfit hown
      go_wp2_with (at_builtin; go_loud (refine Lib.wpList_append_own_string _ rfl _ _ 22 9 rfl w.heap.size 5 iu Tryd.underlying22 Tryd.underlying9 hiu hu0 hu1 hu2 u4 xs.length (encs (Value.int .u8) xs) rfl HO.out ⟨#[46, 10]⟩ rfl ?s1 ?s2 HP.out.below.size ?_))
      case s1 => unfold maxLen; show xs.length + 2 ≤ _; omega
      case s2 => show xs.length + 2 ≤ _; omega
      intro v9 w9 hown9 hg9 _
      have hR9 : Kd.R (Kd.int .u8) 5 w9 w.heap.size (fun _ => True) v9 (xs ++ [46, 10]) := Kd.R_of_own (h1 := fun _ => rfl) (by
        have e1 : (xs ++ [46, 10]).length = xs.length + 2 := by simp
        have e2 : encs (Value.int .u8) (xs ++ [46, 10]) = encs (Value.int .u8) xs ++ Lib.strCells ⟨#[46, 10]⟩ := by simp [encs, Lib.strCells]
        rw [e1, e2]
        exact hown9) (fun _ _ => trivial)
      have HR9 := Lib.hid hR9
      have HB9 := Lib.hid (HP.out.below.grown hg9 HP.out.below.size (fun j hj => (Kd.R_base HP.out.own) j hj))
      clear hown9 hR9 hg9
      go_wp2_with fail
      go_ret2
      rw [HF2.out]
      exact ⟨_, rfl, HR9.out, HB9.out⟩
def RowsIn (init : List Int) (fr : List (List Int)) : Prop := ∀ x ∈ init :: fr, x.length ≤ 140737488351232 ∧ ∀ c ∈ x, 0 ≤ c ∧ c < 256
instance (init : List Int) (fr : List (List Int)) : Decidable (RowsIn init fr) := by unfold RowsIn; infer_instance
def wit_Put.f (a0_0 : Int) (l0_1 : List Int) (l0_2 : List (List Int)) : Option (List Int × Int) := if RowsIn l0_1 l0_2 then some (putF a0_0 l0_1 l0_2) else none
theorem wit_Put.calls (a0_0 : Int) (A0_1 : Option Addr) (c0_1 : Nat) (l0_1 : List Int) (A0_2 : Option Addr) (c0_2 : Nat) (l0_2 : List (List Int)) (r1 : List Int) (r2 : Int) (w : World) (hgl : Gl w) (hr0_1 : Kd.C (Kd.int .u8) w A0_1 l0_1.length l0_1) (hc0_1 : l0_1.length ≤ c0_1)
    (hr0_2 : Kd.C (Kd.slice 5 (Kd.int .u8)) w A0_2 l0_2.length l0_2) (hc0_2 : l0_2.length ≤ c0_2) (h : wit_Put.f a0_0 l0_1 l0_2 = some (r1, r2)) :
    Calls Tryd.prog 9 #[.agg #[.int .i64 a0_0, .slice A0_1 l0_1.length c0_1, .slice A0_2 l0_2.length c0_2]] w fun e w' => ∃ v0_ : Value, e = .returned (.tuple #[v0_, .int .i64 r2]) ∧ Kd.R (Kd.int .u8) 5 w' w.heap.size (fun _ => True) v0_ r1 ∧ Below w.heap.size w w' := by
  unfold wit_Put.f at h
  split at h
  · rename_i hok
    have h' := Option.some.inj h
    by_cases hb : a0_0 < 0 ∨ 1024 ≤ a0_0 ∨ l0_2.length = 0 ∨ 256 < l0_2.length
    · rw [put_early _ _ _ hb] at h'
      simp only [Prod.mk.injEq] at h'
      obtain ⟨rfl, rfl⟩ := h'
      refine (put_bad a0_0 l0_1 l0_2 hb A0_1 c0_1 A0_2 c0_2 w).mono ?_
      rintro e w' ⟨rfl, hb'⟩
      exact ⟨_, rfl, Kd.R_nil _ _ _ _ _, hb'⟩
    · obtain ⟨n, rfl⟩ : ∃ n : Nat, a0_0 = (n : Int) := ⟨a0_0.toNat, by omega⟩
      obtain ⟨ad, rfl, _⟩ := hr0_2.2.2 (by omega)
      have hh := put_go n l0_1 l0_2 (by omega) (by omega) (by omega) hok A0_1 c0_1 ad c0_2 w hgl hr0_1 hc0_1 hr0_2 hc0_2
      rw [h'] at hh
      exact hh
  · cases h
end Go.Proofs.YtfajplhkbpobiaaDoor.Z
