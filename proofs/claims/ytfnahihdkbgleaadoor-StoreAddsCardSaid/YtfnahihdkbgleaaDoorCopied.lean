/- slices.Clone at items, store.copied: items of their own memory. -/
import Derived.Test.YtfnahihdkbgleaaDoorClone
import Derived.Test.YtfnahihdkbgleaaDoorFile
import Derived.Lib.SliceRun
namespace Go.Proofs.YtfnahihdkbgleaaDoor.Z
set_option linter.unusedVariables false
open Go.RowKit Go.Proofs.YtfnahihdkbgleaaDoorW.PrintWords Go.Proofs.YtfnahihdkbgleaaDoorW.PrintWords.Kd
theorem info29 : ∃ i, Tryd.prog.info? 29 = some i ∧ i.zero = some (.agg #[.int .u8 0, .string ⟨#[]⟩, .slice none 0 0]) ∧ i.size = 3 ∧ i.bytes = 48 := by
  have h : (Tryd.prog.info? 29).map (fun i => (i.zero, i.size, i.bytes)) = some (some (.agg #[.int .u8 0, .string ⟨#[]⟩, .slice none 0 0]), 3, 48) := by kernel_rfl
  obtain ⟨i, hi, hq⟩ := Option.map_eq_some_iff.1 h
  simp only [Prod.mk.injEq] at hq
  exact ⟨i, hi, hq.1, hq.2.1, hq.2.2⟩
set_option maxHeartbeats 1600000 in
set_option maxRecDepth 100000 in
/-- A new row of the same cells; nil stays nil. -/
theorem clone29_calls (l : List It) (hlen : l.length ≤ 1000000000000) (A0 : Option Addr) (c0 : Nat) (w0 w : World) (hr : Kd.C k29 w0 A0 l.length l) (hb0 : Below w0.heap.size w0 w) (hc : l.length ≤ c0) :
    Calls Tryd.prog 18 #[.slice A0 l.length c0] w fun e w' => (∃ v', e = .returned v' ∧ OwnRow (k29.K w0) 29 3 w' w.heap.size v' l) ∧ Below w.heap.size w w' := by
  have q27 : ∀ (w : World) (a : Option Addr) (n c n' c' : Nat), (binOp .eql 27 (.slice a n c) (.slice none n' c')).run Tryd.prog w = .ok (.bool a.isNone) w := fun w a n c n' c' => Lib.run_eql_slice_nil w _ _ a n c n' c' Tryd.underlying27
  cases A0 with
  | none =>
    have h0 : l = [] := by
      rcases Nat.eq_zero_or_pos l.length with e | e
      · exact List.length_eq_zero_iff.1 e
      · obtain ⟨ad, hq, _⟩ := hr.2.2 e
        cases hq
    subst h0
    clear hr hb0
    go_enter Tryd.func18, Tryd.ntmps18
    go_wp2
    go_ret
    exact ⟨⟨_, rfl, OwnRow.none_ _ _ _ _ _⟩, Below.refl _ _⟩
  | some ad =>
    obtain ⟨inner, hreps, hcell⟩ := ReadsRow.inner_ hr
    have hone : ∀ u ∈ inner, u.oneCell' = true := Kd.reps_one hreps (by decide) (fun p c h => k29.K_one h)
    have hcell' : ∀ (j : Nat) (u : Value), inner[j]? = some u → w.cell? (ad.add j) = some u := fun j u hu => (hb0.cell (World.block_lt_of_cell? w0 _ (hcell j u hu))).trans (hcell j u hu)
    have HC := Lib.hid hcell'
    have HP := Lib.hid hreps
    have HO := Lib.hid hone
    have hil := hreps.1
    clear hcell hcell' hreps hone hr hb0
    obtain ⟨i0, hi, hz0, hz1, hz2⟩ := info29
    go_enter Tryd.func18, Tryd.ntmps18
    go_wp2_with (at_builtin; refine wpList_append_own _ rfl _ _ 27 rfl w.heap.size 29 i0 _ 3 48 Tryd.underlying27 hi hz0 hz1 hz2 rfl (by decide) _ _ _ rfl (World.ownsRow_made w #[] 0 (Nat.le_refl _) (Nat.zero_le _) rfl) ad l.length c0 inner rfl ?qc1 ?qc2 ?qc3 ?qc4 ?qc5 ?qc6 ?_)
    case qc1 => exact hil
    case qc2 =>
      intro j u hj
      have := HC.out j u hj
      exact Lib.cell?_alloc_some _ this
    case qc3 => exact HO.out
    case qc4 => unfold maxLen; omega
    case qc5 => omega
    case qc6 => simp
    intro v' w1 hown hgrow hnil
    go_wp2
    go_ret
    have hb : Below w.heap.size w w1 := ((Below.refl _ w).alloc (Nat.le_refl _) _).grown hgrow (by simp) (by intro k hk; simp [Value.ownBlock] at hk; omega)
    refine ⟨⟨v', rfl, inner, by simpa using hown, HP.out⟩, hb⟩
theorem size_alloc_le (w : World) (o : Obj) : w.heap.size ≤ (w.alloc o).heap.size := ((Below.refl w.heap.size w).alloc (Nat.le_refl _) o).size
/-- Item j's cells in the row's block. -/
def piece (cur : Array Value) (j : Nat) : List Value := (cur.toList.drop (j * 3)).take 3
theorem piece_at {cur : Array Value} {j : Nat} {a b c : Value} (h : piece cur j = [a, b, c]) : cur[j * 3]? = some a ∧ cur[j * 3 + 1]? = some b ∧ cur[j * 3 + 2]? = some c := by
  have h0 : (piece cur j)[0]? = some a := by rw [h]; rfl
  have h1 : (piece cur j)[1]? = some b := by rw [h]; rfl
  have h2 : (piece cur j)[2]? = some c := by rw [h]; rfl
  unfold piece at h0 h1 h2
  simp only [List.getElem?_take, List.getElem?_drop, Array.getElem?_toList] at h0 h1 h2
  exact ⟨by simpa using h0, by simpa using h1, by simpa using h2⟩
theorem piece_of {cur : Array Value} {j : Nat} {a b c : Value} (h0 : cur[j * 3]? = some a) (h1 : cur[j * 3 + 1]? = some b) (h2 : cur[j * 3 + 2]? = some c) : piece cur j = [a, b, c] := by
  apply List.ext_getElem?
  intro i
  unfold piece
  rcases i with _ | _ | _ | i
  · simpa using h0
  · simpa using h1
  · simpa using h2
  · simp
    omega
theorem piece_set {cur : Array Value} {j : Nat} {a b c : Value} (v : Value) (h : piece cur j = [a, b, c]) : piece (cur.setIfInBounds (j * 3 + 2) v) j = [a, b, v] := by
  obtain ⟨h0, h1, h2⟩ := piece_at h
  have hlt : j * 3 + 2 < cur.size := (Array.getElem?_eq_some_iff.1 h2).1
  refine piece_of ?_ ?_ ?_
  · rw [Array.getElem?_setIfInBounds_ne (by omega)]; exact h0
  · rw [Array.getElem?_setIfInBounds_ne (by omega)]; exact h1
  · simp [hlt]
theorem piece_far {cur : Array Value} {j k : Nat} (v : Value) (h : j ≠ k) : piece (cur.setIfInBounds (k * 3 + 2) v) j = piece cur j := by
  apply List.ext_getElem?
  intro i
  unfold piece
  simp only [List.getElem?_take, List.getElem?_drop, Array.getElem?_toList]
  split
  · rw [Array.getElem?_setIfInBounds_ne (by omega)]
  · rfl
/-- The row while it is filled: k items are of their own memory. -/
structure Fill (w : World) (l : List It) (g cap : Nat) (k : Nat) (wr : World) (cur : Array Value) (f : Nat → Nat) : Prop where
  blk : wr.heap[g]? = some (.cells cur 29 (0, 0))
  size : cur.size = cap * 3
  old : ∀ j x, l[j]? = some x → k ≤ j → k29.K w x (piece cur j)
  new : ∀ j x, l[j]? = some x → j < k → (tag f k29).M wr w.heap.size (fun b => b ≠ g) (x, j) (piece cur j)
  below : Below w.heap.size w wr
theorem Fill.put {w : World} {l : List It} {g cap k : Nat} {wr w1 : World} {cur : Array Value} {f : Nat → Nat} {x : It} {v : Value} {b0 : Nat} (h : Fill w l g cap k wr cur f) (hx : l[k]? = some x) (hg : w.heap.size ≤ g)
    (hb0 : wr.heap.size ≤ b0) (hb : Below wr.heap.size wr w1) (hv : Kd.R (Kd.int .u8) 5 w1 b0 (fun _ => True) v x.f2) :
    Fill w l g cap (k + 1) (w1.setCell ⟨g, k * 3 + 2, none⟩ v) (cur.setIfInBounds (k * 3 + 2) v) (fun b => if wr.heap.size ≤ b then k else f b) := by
  have hgl : g < wr.heap.size := blk_lt h.blk
  have hblk1 := blk_below h.blk hb
  have hheap : ∀ b, b ≠ g → (w1.setCell ⟨g, k * 3 + 2, none⟩ v).heap[b]? = w1.heap[b]? := fun b hbg => Below.heap_setCell w1 ⟨g, k * 3 + 2, none⟩ v b hbg
  refine ⟨blk_set hblk1 _ _, by simpa using h.size, fun j y hj hk => ?_, fun j y hj hk => ?_, below_set (below_then h.below h.below.size hb) hg⟩
  · rw [piece_far v (by omega)]
    exact h.old j y hj (by omega)
  · rcases Nat.lt_or_eq_of_le (Nat.le_of_lt_succ hk) with hlt | rfl
    · rw [piece_far v (by omega)]
      have hM := (tag f k29).M_bound (h.new j y hj hlt)
      have hM2 : k29.M wr w.heap.size (fun b => b ≠ g ∧ (if wr.heap.size ≤ b then k else f b) = j ∧ b < wr.heap.size) y (piece cur j) := by
        refine k29.M_mono (fun b hb' => ?_) hM
        obtain ⟨⟨h1, _, h3, _⟩, h4⟩ := hb'
        exact ⟨h1, by rw [if_neg (by omega)]; exact h4, h3⟩
      have hM3 := k29.M_move (w1 := w1.setCell ⟨g, k * 3 + 2, none⟩ v) (fun b hb' => (hheap b hb'.1).trans (hb.block b hb'.2.2)) hM2
      exact k29.M_mono (fun b hb' => ⟨hb'.1, hb'.2.1⟩) hM3
    · obtain rfl : x = y := Option.some.inj (hx.symm.trans hj)
      obtain ⟨A2, c2, hp, _, _⟩ := k29_open (h.old _ _ hx (Nat.le_refl _))
      rw [piece_set v hp]
      refine k29_mkM _ _ _ x ?_
      have hv1 := Kd.R_lower (Kd.R_mono (Kd.R_bound hv) (ok' := fun b => (b ≠ g ∧ (if wr.heap.size ≤ b then j else f b) = j)) (fun b hb' => ⟨by omega, by rw [if_pos (by omega)]⟩)) (base' := w.heap.size) (by have := h.below.size; omega)
      exact Kd.R_move hv1 (fun b hb' => hheap b hb'.1)
set_option maxHeartbeats 3200000 in
set_option maxRecDepth 100000 in
theorem copied_calls (l : List It) (hpos : 0 < l.length) (hlen : l.length ≤ 1000000000000) (hby : ∀ x ∈ l, x.f2.length ≤ 140737488355328) (A0 : Option Addr) (c0 : Nat) (w : World) (hr : Kd.C k29 w A0 l.length l) (hc : l.length ≤ c0) :
    Calls Tryd.prog 17 #[.slice A0 l.length c0] w fun e w' => (∃ v', e = .returned v' ∧ Kd.S k29 29 w' w.heap.size (fun _ => True) v' l) ∧ Below w.heap.size w w' := by
  have HCl := Lib.hid (clone29_calls l hlen A0 c0 w w hr (Below.refl _ _) hc)
  have HBY := Lib.hid hby
  have hu := Tryd.underlying29
  clear hr hby
  go_enter Tryd.func17, Tryd.ntmps17
  go_wp2_with fail
  refine HCl.out.mono ?_
  rintro e w1 ⟨⟨v', rfl, inner, hown, hreps⟩, hb1⟩
  rcases hown.2 with ⟨_, h0⟩ | ⟨g, cap, cur, rfl, hg, hh, hcap, hcm, hsz, htk⟩
  · omega
  have hF0 : Fill w l g cap 0 w1 cur (fun _ => 0) := by
    refine ⟨hh, hsz, fun j x hj _ => ?_, fun j x hj hk => absurd hk (by omega), hb1⟩
    have := hreps.2 j x hj
    rw [← htk, List.drop_take, List.take_take] at this
    have hjl : j < l.length := (List.getElem?_eq_some_iff.1 hj).1
    rw [show min 3 (l.length * 3 - j * 3) = 3 by omega] at this
    exact this
  have HF0 := Lib.hid hF0
  clear hF0 hown hreps hh htk hsz hb1
  go_wp2_with fail
  go_loopw [9] (fun i wr => ∃ (k : Nat) (cur : Array Value) (f : Nat → Nat), k ≤ l.length ∧ i = .int .i64 (k : Int) ∧ Hid (Fill w l g cap k wr cur f)) (fun i _ => l.length - (intOf i).toNat)
  case atStart => exact ⟨0, cur, _, Nat.zero_le _, rfl, HF0⟩
  case round =>
    clear HF0
    obtain ⟨k, cur', f, hk, rfl, HF⟩ := hrel
    by_cases hlt : k < l.length
    · have hlt' : (k : Int) < (l.length : Int) := by omega
      have hxk : l[k]? = some l[k] := List.getElem?_eq_getElem hlt
      have hbx : (l[k]).f2.length ≤ 140737488355328 := HBY.out _ (List.getElem_mem hlt)
      generalize hxx : l[k] = x at *
      clear hxx
      obtain ⟨A2, c2, hp, hl2, hr2⟩ := k29_open (HF.out.old k x hxk (Nat.le_refl _))
      obtain ⟨p0, p1, p2⟩ := piece_at hp
      have hx0 : wr.cell? ⟨g, k * 3, none⟩ = some (.int .u8 x.f0) := (blk_cell HF.out.blk _).trans p0
      have hx1 : wr.cell? ⟨g, k * 3 + 1, none⟩ = some (.string x.f1) := (blk_cell HF.out.blk _).trans p1
      have hx2 : wr.cell? ⟨g, k * 3 + 2, none⟩ = some (.slice A2 x.f2.length c2) := (blk_cell HF.out.blk _).trans p2
      have hrr := Kd.C_below hr2 HF.out.below
      have HCL := Lib.hid (fun W => bytes_Clone.calls A2 c2 x.f2 x.f2 W)
      have HP := Lib.hid hxk
      have HRR := Lib.hid hrr
      clear hr2 hrr hp p0 p1 p2 hxk
      go_wp2_with fail
      refine (HCL.out _ (Kd.C_alloc HRR.out _) hl2 (by unfold bytes_Clone.f; rw [if_pos hbx])).mono ?_
      rintro e w2 ⟨v, rfl, hv, hb2⟩
      obtain ⟨Av, cv, rfl⟩ := Kd.R_slice hv
      have hbw : Below wr.heap.size wr w2 := below_then ((Below.refl _ _).alloc (Nat.le_refl _) _) (size_alloc_le _ _) hb2
      have hblk2 := blk_below HF.out.blk hbw
      have hfz := blk_frozen hblk2 (k * 3 + 2)
      have hx2b : w2.cell? ⟨g, k * 3 + 2, none⟩ = some (.slice A2 x.f2.length c2) := (hbw.cell (World.block_lt_of_cell? wr _ hx2)).trans hx2
      have HF2 := Lib.hid (HF.out.put HP.out hg (size_alloc_le _ _) hbw hv)
      clear hv hb2 hbw hblk2 HF
      go_wp2_with fail
      go_roundw
      case rel => exact ⟨k + 1, _, _, hlt, by go_num, HF2⟩
      case measure =>
        simp [intOf]
        exact Nat.sub_lt_sub_left hlt (Nat.lt_succ_self k)
    · obtain rfl : k = l.length := by omega
      have hF := HF.out
      have key : OwnRow ((tag f k29).M wr w.heap.size (fun b => True ∧ some b ≠ (Value.slice (some ⟨g, 0, none⟩) l.length cap).ownBlock)) 29 3 wr w.heap.size (.slice (some ⟨g, 0, none⟩) l.length cap) l.zipIdx := by
        refine ⟨cur'.toList.take (l.length * 3), ?_, ?_⟩
        · rw [List.length_zipIdx]
          refine ⟨by simp; rw [hF.size]; omega, .inr ⟨g, cap, cur', rfl, hg, hF.blk, hcap, hcm, hF.size, rfl⟩⟩
        · refine ⟨by simp; rw [hF.size]; omega, fun j p hj => ?_⟩
          rw [List.getElem?_zipIdx] at hj
          obtain ⟨x, hx, rfl⟩ := Option.map_eq_some_iff.1 hj
          have hjl : j < l.length := (List.getElem?_eq_some_iff.1 hx).1
          have hN := hF.new j x hx hjl
          rw [List.drop_take, List.take_take, show min 3 (l.length * 3 - j * 3) = 3 by omega, Nat.zero_add]
          refine (tag f k29).M_mono (fun b hb => ⟨trivial, ?_⟩) hN
          intro e
          simp [Value.ownBlock] at e
          exact hb e
      have HK := Lib.hid key
      have HB := Lib.hid hF.below
      clear hF HF key
      go_wp2
      go_ret
      exact ⟨⟨_, rfl, f, fun _ _ => trivial, HK.out⟩, HB.out⟩
end Go.Proofs.YtfnahihdkbgleaaDoor.Z
