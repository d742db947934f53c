/- lex.Write at one number; inquestlaw05.text. -/
import Derived.Test.YtfajplhkbpobiaaDoorRow
import Derived.Lib.ConvBytes
import Derived.Lib.ItoaMem
import Derived.Lib.ItoaLen
namespace Go.Proofs.YtfajplhkbpobiaaDoor.Z
set_option linter.unusedVariables false
open Go.RowKit Go.Proofs.YtfajplhkbpobiaaDoorW.PrintWords
def toI (l : List UInt8) : List Int := l.map fun b => (b.toNat : Int)
theorem byteCells_toI (l : List UInt8) : Lib.byteCells l = encs (Value.int .u8) (toI l) := by
  simp [Lib.byteCells, encs, toI]
theorem itoa_dec (u : Nat) : Lib.itoa (u : Int) = Lib.decDigits u := by unfold Lib.itoa; rw [if_neg (by omega)]; simp
set_option maxHeartbeats 1600000 in
/-- strconv.AppendUint at base 10, behind bytes of one's own. -/
theorem append_uint (n : Nat) (hn : n < 18446744073709551616) (B : Nat) (v : Value) (xs : List Int) (w : World) (hG : Gl w) (hR : Kd.R (Kd.int .u8) 5 w B (fun _ => True) v xs) (hB : B ≤ w.heap.size) (hlim : xs.length + 20 ≤ 140737488355328) :
    Calls Tryd.prog 32 #[v, .int .u64 n, .int .i64 10] w fun e w' => ∃ v', e = .returned v' ∧ Kd.R (Kd.int .u8) 5 w' B (fun _ => True) v' (xs ++ toI (Lib.itoa (n : Int))) ∧ Below B w w' := by
  have hown := Kd.own_of_R hR
  have HC : Hid (Calls Tryd.prog 38 #[v, .int .u64 n, .int .i64 10] w fun e w' => ∃ v', e = .returned v' ∧ Kd.R (Kd.int .u8) 5 w' B (fun _ => True) v' (xs ++ toI (Lib.itoa (n : Int))) ∧ Below B w w') := Lib.hid (by
    have fin : ∀ e w', (∃ v', e = Ending.returned v' ∧ w'.ownsRow B 5 1 v' (xs.length + (Lib.decDigits n).length) (encs (Value.int .u8) xs ++ Lib.byteCells (Lib.decDigits n)) ∧ Below B w w' ∧ Lib.OthersKept 5 none w w') → ∃ v', e = .returned v' ∧ Kd.R (Kd.int .u8) 5 w' B (fun _ => True) v' (xs ++ toI (Lib.itoa (n : Int))) ∧ Below B w w' := by
      rintro e w' ⟨v', rfl, ho, hb, _⟩
      refine ⟨v', rfl, Kd.R_of_own (h1 := fun _ => rfl) ?_ (fun _ _ => trivial), hb⟩
      rw [itoa_dec]
      have e1 : (xs ++ toI (Lib.decDigits n)).length = xs.length + (Lib.decDigits n).length := by simp [toI]
      rw [e1]
      have e2 : encs (Value.int .u8) (xs ++ toI (Lib.decDigits n)) = encs (Value.int .u8) xs ++ Lib.byteCells (Lib.decDigits n) := by rw [byteCells_toI]; simp [encs]
      rw [e2]
      exact ho
    by_cases h : n < 100
    · exact (Tryd.internal_strconv_AppendUint_10_small B xs.length n h v _ w hown hB hlim).mono fin
    · exact (Tryd.internal_strconv_AppendUint_10_big B xs.length n (by omega) hn v _ w hown hB hlim hG.pow).mono fin)
  clear hown hR hG
  go_enter Tryd.func32, Tryd.ntmps32
  go_wp2_with fail
  refine HC.out.mono ?_
  rintro e w1 ⟨v1, rfl, hR1, hb1⟩
  have HR1 := Lib.hid hR1
  have HB1 := Lib.hid hb1
  clear hR1 hb1 HC
  go_wp2_with fail
  go_ret
  exact ⟨v1, rfl, HR1.out, HB1.out⟩
set_option maxHeartbeats 3200000 in
set_option maxRecDepth 100000 in
theorem write_calls (b : List Int) (n : Nat) (hn : n < 4294967296) (hlen : b.length ≤ 1000000000000) (A0 : Option Addr) (c0 : Nat) (ad1 : Addr) (c1 : Nat) (w : World) (hG : Gl w) (hr : Kd.C (Kd.int .u8) w A0 b.length b) (hc : b.length ≤ c0) (h1 : w.cell? ad1 = some (.int .u32 (n : Int))) :
    Calls Tryd.prog 19 #[.slice A0 b.length c0, .slice (some ad1) 1 c1] w fun e w' => ∃ v, e = .returned v ∧ Kd.R (Kd.int .u8) 5 w' w.heap.size (fun _ => True) v (b ++ toI (Lib.itoa (n : Int)) ++ [10]) ∧ Below w.heap.size w w' := by
  have HC := Lib.hid (bytes_Clone.calls A0 c0 b b w hr hc (by unfold bytes_Clone.f; rw [if_pos (by omega)]))
  have HG := Lib.hid hG
  have hw1 : IntKind.u64.wrap (n : Int) = (n : Int) := by rw [IntKind.wrap_u64]; omega
  have hdl : (toI (Lib.itoa (n : Int))).length ≤ 21 := by
    unfold toI
    rw [List.length_map]
    exact Lib.itoa_length_le (n : Int) (by omega) (by omega)
  clear hr hG
  go_enter Tryd.func19, Tryd.ntmps19
  go_wp2_with fail
  refine HC.out.mono ?_
  rintro e w1 ⟨v1, rfl, hv1, hb1⟩
  have x1 : w1.cell? ad1 = some (.int .u32 (n : Int)) := (hb1.cell (World.block_lt_of_cell? w _ h1)).trans h1
  have HV1 := Lib.hid hv1
  have HB1 := Lib.hid hb1
  clear hv1 hb1 h1 HC
  go_wp2_with fail
  go_loopw [5, 12] (fun v i wr => (i = .int .i64 0 ∧ v = v1 ∧ wr = w1) ∨ (i = .int .i64 1 ∧ Hid (Kd.R (Kd.int .u8) 5 wr w.heap.size (fun _ => True) v (b ++ toI (Lib.itoa (n : Int)))) ∧ Hid (Below w.heap.size w wr))) (fun _ i _ => 1 - (intOf i).toNat)
  case atStart => exact .inl ⟨rfl, rfl, rfl⟩
  case round =>
    rcases hrel with ⟨rfl, rfl, rfl⟩ | ⟨rfl, HV, HB⟩
    · have HA := Lib.hid (append_uint n (by omega) w.heap.size _ b _ (Gl.below HB1.out HG.out) HV1.out HB1.out.size (by omega))
      go_wp2_with fail
      refine HA.out.mono ?_
      rintro e w2 ⟨v2, rfl, hR2, hb2⟩
      have HR2 := Lib.hid hR2
      have HB2 := Lib.hid (HB1.out.trans hb2)
      clear hR2 hb2 HA
      go_wp2_with fail
      go_roundw
      case rel => exact .inr ⟨by go_num, HR2, HB2⟩
      case measure => decide
    · have hlk : ((b ++ toI (Lib.itoa (n : Int))).length + 1) * 1 ≤ 140737488355328 := by rw [List.length_append]; omega
      generalize hxs : b ++ toI (Lib.itoa (n : Int)) = xs at *
      go_wp2_with (at_builtin; refine Kd.R_append (Kd.int .u8) (w0 := w) w.heap.size rfl _ _ 22 5 (.int .u8 0) 1 rfl Tryd.underlying22 info_u8b rfl (by decide) (by decide) u5 xs 10 [.int .u8 10] (fun _ => True) (fun _ => False) rfl rfl ?hp (fun _ h => h.elim) (fun _ _ => trivial) HV.out HB.out HB.out.size hlk ?_; (case hp => exact (show Kd.M (Kd.int .u8) _ _ _ 10 [.int .u8 10] from rfl)))
      intro v3 w3 hR3 hB3 _ _
      have HR3 := Lib.hid hR3
      have HB3 := Lib.hid hB3
      clear hR3 hB3
      go_wp2_with fail
      go_ret
      rw [hxs]
      exact ⟨v3, rfl, HR3.out, HB3.out⟩
/-- A row that was made of a string: it may be read and written, its mark lies behind it. -/
structure RowQ (w wr : World) (g : Nat) (xs : List Int) : Prop where
  blk : ∃ C q, wr.heap[g]? = some (.cells C 5 (q, q + 1)) ∧ xs.length ≤ q ∧ xs.length ≤ C.size ∧ ∀ j, j < xs.length → C[j]? = some (.int .u8 (xs.getD j 0))
  below : Below w.heap.size w wr
theorem RowQ.cell {w wr : World} {g : Nat} {xs : List Int} (h : RowQ w wr g xs) (j : Nat) (hj : j < xs.length) : wr.cell? ⟨g, j, none⟩ = some (.int .u8 (xs.getD j 0)) ∧ wr.frozen? ⟨g, j, none⟩ = false := by
  obtain ⟨C, q, hb, hq, _, hc⟩ := h.blk
  refine ⟨(cell_of_row wr g j C _ _ hb).trans (hc j hj), ?_⟩
  unfold World.frozen?
  simp only [hb]
  simp
  omega
theorem RowQ.reads {w wr : World} {g : Nat} {xs : List Int} (h : RowQ w wr g xs) (hm : xs.length ≤ 9223372036854775807) : Kd.C (Kd.int .u8) wr (some ⟨g, 0, none⟩) xs.length xs := by
  refine ⟨rfl, hm, fun _ => ⟨_, rfl, fun j p hj => ⟨[.int .u8 p], rfl, rfl, fun i u hu => ?_⟩⟩⟩
  have hi : i = 0 := by
    have := (List.getElem?_eq_some_iff.1 hu).1
    simpa using this
  subst hi
  simp only [List.getElem?_cons_zero, Option.some.injEq] at hu
  subst hu
  have hjl : j < xs.length := (List.getElem?_eq_some_iff.1 hj).1
  rw [show (Kd.int .u8).sz = 1 from rfl, Nat.mul_one, Nat.add_zero, Lib.add_plain, Nat.zero_add]
  rw [(h.cell j hjl).1]
  simp [List.getD, hj]
theorem RowQ.set {w wr : World} {g : Nat} {xs : List Int} (h : RowQ w wr g xs) (hg : w.heap.size ≤ g) (j : Nat) (hjl : j < xs.length) (z : Int) : RowQ w (wr.setCell ⟨g, j, none⟩ (.int .u8 z)) g (xs.set j z) := by
  obtain ⟨C, q, hb, hq, hs, hc⟩ := h.blk
  refine ⟨⟨C.setIfInBounds j (.int .u8 z), q, by simp [World.setCell, Array.getElem?_modify, hb], by simpa using hq, by simpa using hs, fun k hk => ?_⟩, below_set h.below hg⟩
  rw [List.length_set] at hk
  by_cases hjk : j = k
  · subst hjk
    have h3 : j < C.size := by omega
    simp [List.getD, hjl, h3]
  · rw [Array.getElem?_setIfInBounds_ne hjk, hc k hk]
    simp [List.getD, hjk]
theorem RowQ.made (w : World) (s : ByteArray) : RowQ w (Lib.bytesWorld w 5 s) w.heap.size (toI s.data.toList) := by
  have hsz : (toI s.data.toList).length = s.size := by simp [toI]
  have hcs : s.size ≤ (Lib.bytesCells w 5 s).size := by unfold Lib.bytesCells; rw [Array.size_append, Array.size_map]; have : s.data.size = s.size := rfl; omega
  refine ⟨⟨_, _, Lib.bytesWorld_at_new w 5 s, by omega, by omega, fun j hj => ?_⟩, bytes_below (Below.refl _ _) (Nat.le_refl _) _ _⟩
  have h1 := Lib.bytesWorld_cell w 5 s j (by omega)
  rw [cell_of_row _ _ j _ _ _ (Lib.bytesWorld_at_new w 5 s)] at h1
  rw [h1]
  unfold toI
  simp only [List.getD, List.getElem?_map]
  cases (s.data.toList)[j]? <;> rfl
def tx (c : Int) : Int := if c = 47 then 10 else c
def txs (l : List Int) (k : Nat) : List Int := (l.take k).map tx ++ l.drop k
theorem txs_len (l : List Int) (k : Nat) : (txs l k).length = l.length := by
  unfold txs
  rw [List.length_append, List.length_map, List.length_take, List.length_drop]
  omega
theorem txs_at (l : List Int) (k : Nat) (hk : k < l.length) : (txs l k).getD k 0 = l[k] := by
  unfold txs
  have h1 : ((l.take k).map tx).length = k := by simp; omega
  simp only [List.getD]
  rw [List.getElem?_append_right (by omega), h1, Nat.sub_self, List.getElem?_drop, Nat.add_zero, List.getElem?_eq_getElem hk]
  rfl
theorem txs_step (l : List Int) (k : Nat) (hk : k < l.length) : txs l (k + 1) = (txs l k).set k (tx l[k]) := by
  unfold txs
  have h1 : ((l.take k).map tx).length = k := by simp; omega
  rw [List.set_append_right _ _ (by omega), h1, Nat.sub_self, List.drop_eq_getElem_cons hk, List.set_cons_zero, List.take_succ_eq_append_getElem hk, List.map_append, List.append_assoc]
  rfl
theorem set_same (l : List Int) (k : Nat) (x : Int) (hx : l.getD k 0 = x) (hk : k < l.length) : l.set k x = l := by
  subst hx
  simp [List.getD, hk]
set_option maxHeartbeats 3200000 in
set_option maxRecDepth 100000 in
theorem text_calls (s : ByteArray) (hs : s.size ≤ 1000000) (w : World) :
    Calls Tryd.prog 18 #[.string s] w fun e w' => ∃ A c, e = .returned (.slice A ((toI s.data.toList).map tx).length c) ∧ ((toI s.data.toList).map tx).length ≤ c ∧ Kd.C (Kd.int .u8) w' A ((toI s.data.toList).map tx).length ((toI s.data.toList).map tx) ∧ Below w.heap.size w w' := by
  have hcb := fun (w : World) => Lib.run_convert_string_bytes (P := Tryd.prog) w 9 22 5 s Tryd.underlying9 Tryd.underlying22 Tryd.underlying5
  have hcap : s.size ≤ grownCap w s.size 0 5 := grownCap_ge _ _ _ _
  have HQ := Lib.hid (RowQ.made w s)
  have hsz : (toI s.data.toList).length = s.size := by simp [toI]
  go_enter Tryd.func18, Tryd.ntmps18
  go_wp2_with fail
  generalize grownCap w s.size 0 5 = cap at *
  generalize hL : toI s.data.toList = l at *
  rw [← hsz] at hcap hs
  have hss : s.size = l.length := hsz.symm
  clear hsz hcb
  rw [hss]
  obtain ⟨g, hgE⟩ : ∃ g, g = w.heap.size := ⟨_, rfl⟩
  rw [← hgE] at HQ ⊢
  have hgle : w.heap.size ≤ g := by omega
  have HSS := Lib.hid hss
  clear hgE hss
  generalize Lib.bytesWorld w 5 s = w0 at *
  go_wp2_with fail
  go_loopw [9] (fun i wr => ∃ (k : Nat), k ≤ l.length ∧ i = .int .i64 (k : Int) ∧ Hid (RowQ w wr g (txs l k))) (fun i _ => l.length - (intOf i).toNat)
  case atStart => exact ⟨0, Nat.zero_le _, rfl, HQ⟩
  case round =>
    clear HQ
    obtain ⟨k, hk, rfl, HS⟩ := hrel
    by_cases hlt : k < l.length
    · have hlt' : (k : Int) < (l.length : Int) := Int.ofNat_lt.2 hlt
      obtain ⟨hx, hz⟩ := HS.out.cell k (by rw [txs_len]; exact hlt)
      rw [txs_at l k hlt] at hx
      have HST := Lib.hid (txs_step l k hlt)
      have HAT := Lib.hid (txs_at l k hlt)
      generalize l[k] = x at *
      by_cases h47 : x = 47
      · have h47b : (x == 47) = true := beq_iff_eq.2 h47
        have HN : Hid (RowQ w (wr.setCell ⟨g, k, none⟩ (.int .u8 10)) g (txs l (k + 1))) := Lib.hid (by
          rw [HST.out, show tx x = 10 by unfold tx; rw [if_pos h47]]
          exact HS.out.set hgle k (by rw [txs_len]; exact hlt) 10)
        clear h47 HST HAT HS
        go_wp2_with fail
        go_roundw
        case rel => exact ⟨k + 1, hlt, by go_num, HN⟩
        case measure =>
          simp [intOf]
          omega
      · have h47b : (x == 47) = false := beq_eq_false_iff_ne.2 h47
        have HN : Hid (RowQ w wr g (txs l (k + 1))) := Lib.hid (by
          rw [HST.out, show tx x = x by unfold tx; rw [if_neg h47], set_same _ _ _ HAT.out (by rw [txs_len]; exact hlt)]
          exact HS.out)
        clear h47 HST HAT HS hz
        go_wp2_with fail
        go_roundw
        case rel => exact ⟨k + 1, hlt, by go_num, HN⟩
        case measure =>
          simp [intOf]
          omega
    · obtain rfl : k = l.length := by omega
      have hfin : txs l l.length = l.map tx := by unfold txs; simp
      rw [hfin] at HS
      go_wp2_with fail
      go_ret
      have hl2 : (l.map tx).length = l.length := List.length_map _
      rw [hL]
      refine ⟨some ⟨g, 0, none⟩, cap, by rw [hl2]; rfl, by rw [hl2]; exact hcap, HS.out.reads (by rw [hl2]; omega), HS.out.below⟩
end Go.Proofs.YtfajplhkbpobiaaDoor.Z
