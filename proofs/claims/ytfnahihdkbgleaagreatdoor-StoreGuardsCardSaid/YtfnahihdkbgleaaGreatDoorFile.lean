/- store.file: the file of items. -/
import Derived.Test.YtfnahihdkbgleaaGreatDoorLast
import Derived.Test.YtfnahihdkbgleaaGreatDoorBuf
import Derived.Deep.RegionHeld3
import Derived.Lib.ItoaLen
import Derived.Lib.BufferOld
namespace Go.Proofs.YtfnahihdkbgleaaGreatDoor.Z
set_option linter.unusedVariables false
open Go.RowKit Go.Proofs.YtfnahihdkbgleaaGreatDoorW.PrintWords
abbrev It := S37
def toI (l : List UInt8) : List Int := l.map fun b => (b.toNat : Int)
def headL (n : Nat) : List UInt8 := [105, 110, 113, 117, 101, 115, 116, 32] ++ Lib.itoa n ++ [10]
def itemHead (x : It) : List UInt8 := Lib.itoa x.f0 ++ [32] ++ x.f1.data.toList ++ [32] ++ Lib.itoa (x.f2.length : Int) ++ [10]
def itemL (x : It) : List Int := toI (itemHead x) ++ x.f2 ++ [10]
def itemsL (l : List It) : List Int := l.flatMap itemL
def bodyL (l : List It) : List Int := toI (headL l.length) ++ itemsL l
def fileL (l : List It) : List Int := bodyL l ++ toI (lastL (bodyL l))
/-- Items whose numbers are in range. -/
def ItOk (l : List It) : Prop := ∀ x ∈ l, (0 ≤ x.f0 ∧ x.f0 < 256) ∧ ∀ b ∈ x.f2, 0 ≤ b ∧ b < 256
theorem toI_bytesOf (l : List UInt8) : bytesOf ⟨l.toArray⟩ = toI l := rfl
theorem toI_range (l : List UInt8) : ∀ b ∈ toI l, 0 ≤ b ∧ b < 256 := by
  intro b hb
  obtain ⟨c, _, rfl⟩ := List.mem_map.1 hb
  have := c.toNat_lt
  omega
theorem itemsL_take (l : List It) (k : Nat) (hk : k < l.length) : itemsL (l.take (k + 1)) = itemsL (l.take k) ++ itemL (l[k]) := by
  unfold itemsL
  rw [List.take_succ_eq_append_getElem hk, List.flatMap_append]
  simp
theorem itemsL_le (l : List It) (k : Nat) : (itemsL (l.take k)).length ≤ (itemsL l).length := by
  have e : itemsL l = itemsL (l.take k) ++ itemsL (l.drop k) := by
    unfold itemsL
    rw [← List.flatMap_append, List.take_append_drop]
  rw [e, List.length_append]
  omega
theorem body_range (l : List It) (h : ItOk l) : ∀ c ∈ bodyL l, 0 ≤ c ∧ c < 256 := by
  intro c hc
  unfold bodyL itemsL at hc
  rcases List.mem_append.1 hc with hc | hc
  · exact toI_range _ c hc
  · obtain ⟨x, hx, hc⟩ := List.mem_flatMap.1 hc
    unfold itemL at hc
    rcases List.mem_append.1 hc with hc | hc
    · rcases List.mem_append.1 hc with hc | hc
      · exact toI_range _ c hc
      · exact (h x hx).2 c hc
    · simp at hc; omega
/-- A variable in memory; w0: the call's first world. -/
structure BoxAt (t : TypeId) (a : Nat) (cs : Array Value) (w0 W : World) : Prop where
  blk : W.heap[a]? = some (.cells cs t (0, 0))
  below : Below w0.heap.size w0 W
theorem BoxAt.start {t : TypeId} {a : Nat} {c0 c1 c2 : Value} {w0 W1 : World} (h : W1.heap[a]? = some (.cells #[c0, c1, c2] t (0, 0))) (hb : Below w0.heap.size w0 W1) :
    W1.drew.cell? ⟨a, 0, none⟩ = some c0 ∧ W1.drew.cell? ⟨a, 1, none⟩ = some c1 ∧ W1.drew.cell? ⟨a, 2, none⟩ = some c2 ∧ Hid (BoxAt t a #[c0, c1, c2] w0 W1.drew) :=
  ⟨(blk_cell (w := W1.drew) h 0).trans rfl, (blk_cell (w := W1.drew) h 1).trans rfl, (blk_cell (w := W1.drew) h 2).trans rfl, Lib.hid ⟨h, below_drew1 hb⟩⟩
theorem BoxAt.mk3 {t : TypeId} {a : Nat} {c0 c1 c2 : Value} {w0 W W' : World} (h : BoxAt t a #[c0, c1, c2] w0 W) (hb : Below W.heap.size W W') :
    W'.cell? ⟨a, 0, none⟩ = some c0 ∧ W'.cell? ⟨a, 1, none⟩ = some c1 ∧ W'.cell? ⟨a, 2, none⟩ = some c2 ∧ Hid (BoxAt t a #[c0, c1, c2] w0 W') := by
  have hk := blk_below h.blk hb
  exact ⟨(blk_cell hk 0).trans rfl, (blk_cell hk 1).trans rfl, (blk_cell hk 2).trans rfl, Lib.hid ⟨hk, below_step h.below hb⟩⟩
theorem BoxAt.mk3' {t : TypeId} {a n : Nat} {c0 c1 c2 : Value} {w0 W W' : World} (h : BoxAt t a #[c0, c1, c2] w0 W) (hb : Below n W W') (hn : n = w0.heap.size) (ho : Oth n W W') (ht : t ≠ 5) (hne : a ≠ n) :
    W'.cell? ⟨a, 0, none⟩ = some c0 ∧ W'.cell? ⟨a, 1, none⟩ = some c1 ∧ W'.cell? ⟨a, 2, none⟩ = some c2 ∧ Hid (BoxAt t a #[c0, c1, c2] w0 W') := by
  subst hn
  have hk := ho a _ _ h.blk ht hne
  exact ⟨(blk_cell hk 0).trans rfl, (blk_cell hk 1).trans rfl, (blk_cell hk 2).trans rfl, Lib.hid ⟨hk, h.below.trans hb⟩⟩
theorem since_find {W1 W : World} (h : Hid (Below W1.heap.size W1 W)) : Below W1.heap.size W1 W := h.out
theorem buf_find {n : Nat} {xs : List Int} {W : World} (h : Hid (Buf n xs W)) : Buf n xs W := h.out
theorem BoxAt.find {t : TypeId} {a : Nat} {cs : Array Value} {w0 W : World} {p q r : Prop} (h : p ∧ q ∧ r ∧ Hid (BoxAt t a cs w0 W)) : BoxAt t a cs w0 W := h.2.2.2.out
theorem item_bytes (x : It) : bytesOf (⟨(Lib.itoa x.f0).toArray⟩ ++ ⟨#[32]⟩ ++ x.f1 ++ ⟨#[32]⟩ ++ ⟨(Lib.itoa (x.f2.length : Int)).toArray⟩ ++ ⟨#[10]⟩) = toI (itemHead x) := by
  simp [bytesOf, toI, itemHead]
theorem item_lim {x : It} {ys : List Int} {n : Nat} (h : ys.length + ((itemHead x).length + n + 1) ≤ 140737488355328) :
    ys.length + (⟨(Lib.itoa x.f0).toArray⟩ ++ ⟨#[32]⟩ ++ x.f1 ++ ⟨#[32]⟩ ++ ⟨(Lib.itoa (x.f2.length : Int)).toArray⟩ ++ ⟨#[10]⟩ : ByteArray).size ≤ 140737488355328 := by
  have e := congrArg List.length (item_bytes x)
  rw [bytesOf_length] at e
  rw [e]
  simp only [toI, List.length_map]
  omega
set_option maxHeartbeats 3200000 in
set_option maxRecDepth 100000 in
theorem file_calls (l : List It) (ho : ItOk l) (hlim : (fileL l).length ≤ 140737488355328) (A0 : Option Addr) (c0 : Nat) (w : World) (hG : Gl w) (hr : Kd.C k37 w A0 l.length l) (hc : l.length ≤ c0) :
    Calls Tryz.prog 13 #[.slice A0 l.length c0] w fun e w' => ∃ v, e = .returned v ∧ Kd.R (Kd.int .u8) 5 w' w.heap.size (fun _ => True) v (fileL l) ∧ Below w.heap.size w w' := by
  have hl9 : l.length ≤ 9223372036854775807 := hr.2.1
  have HR := Lib.hid hr
  have HO := Lib.hid ho
  have HLIM := Lib.hid hlim
  clear hr ho hlim
  have hu := Tryz.underlying37
  go_enter Tryz.func13, Tryz.ntmps13
  go_wp2_with fail
  refine (Itoa_calls _ (by omega) (by omega) _ (hG.alloc _)).mono ?_
  rintro e w1 ⟨rfl, hb1⟩
  have B1 : Buf w.heap.size [] w1 := by
    have := (Buf.new w)
    unfold Buf at this ⊢
    exact this.old hb1
  have b1 : Below w.heap.size w w1 := below_step ((Below.refl _ _).alloc (Nat.le_refl _) _) hb1
  have hd1 := Lib.itoa_length_le (l.length : Int) (by omega) (by omega)
  generalize hs1 : Lib.itoa (l.length : Int) = d1 at hd1 ⊢
  have HS1 := Lib.hid hs1
  have z1 : (⟨d1.toArray⟩ : ByteArray).size ≤ 21 := hd1
  clear hs1 hb1
  go_wp2_with fail
  refine (B1.writeString _ ?_).mono ?_
  · show 0 + (([105, 110, 113, 117, 101, 115, 116, 32] ++ d1 ++ [10] : List UInt8)).length ≤ _
    simp only [List.length_append, List.length_cons, List.length_nil]
    omega
  rintro e w2 ⟨rfl, hB2, hb2, -⟩
  have b2 : Below w.heap.size w w2 := b1.trans hb2
  have B2 : Buf w.heap.size (toI (headL l.length) ++ itemsL (l.take 0)) w2 := by
    have e : headL l.length = [105, 110, 113, 117, 101, 115, 116, 32] ++ d1 ++ [10] := by unfold headL; rw [HS1.out]
    rw [e, List.take_zero]
    rw [List.nil_append] at hB2
    rw [show itemsL [] = [] from rfl, List.append_nil]
    exact hB2
  clear hB2 hb2 B1 b1 HS1 hd1 z1
  go_wp2_with fail
  go_loopw [14] (fun i wr => ∃ k : Nat, k ≤ l.length ∧ i = .int .i64 (k : Int) ∧ Buf w.heap.size (toI (headL l.length) ++ itemsL (l.take k)) wr ∧ Below w.heap.size w wr) (fun i _ => l.length - (intOf i).toNat)
  case atStart => exact ⟨0, Nat.zero_le _, rfl, B2, b2⟩
  case round =>
    clear B2 b2
    obtain ⟨k, hk, rfl, hB, hb⟩ := hrel
    by_cases hlt : k < l.length
    · have hlt' : (k : Int) < (l.length : Int) := by omega
      obtain ⟨ad, A2, c2, rfl, hx0, hx1, hx2, hl2, hr2⟩ := at_T37 HR.out (k : Int) (by omega) (by omega)
      have hxe : rd_T37 l (k : Int) = l[k] := by simp [rd_T37, List.getD, hlt]
      rw [hxe] at hx0 hx1 hx2 hl2 hr2
      simp only [Int.toNat_natCast] at hx0 hx1 hx2
      have HX2 := Lib.hid hr2
      have HX3 := Lib.hid hl2
      have hxo := (HO.out l[k] (List.getElem_mem hlt)).1
      have hl29 : (l[k]).f2.length ≤ 9223372036854775807 := hr2.2.1
      have HLE := Lib.hid (itemsL_take l k hlt)
      have HLM := Lib.hid (itemsL_le l (k + 1))
      clear hr2 hl2 hxe
      generalize l[k] = x at *
      replace hx0 := (hb.cell (World.block_lt_of_cell? w _ hx0)).trans hx0
      replace hx1 := (hb.cell (World.block_lt_of_cell? w _ hx1)).trans hx1
      replace hx2 := (hb.cell (World.block_lt_of_cell? w _ hx2)).trans hx2
      go_wp2_with fail
      have qb : (wr.alloc (.cells #[.int .u8 x.f0, .string x.f1, .slice A2 x.f2.length c2] 37)).heap[wr.heap.size]? = some (.cells #[.int .u8 x.f0, .string x.f1, .slice A2 x.f2.length c2] 37 (0, 0)) := blk_new wr _
      have hb' := Lib.hid (hb.alloc hb.size (.cells #[.int .u8 x.f0, .string x.f1, .slice A2 x.f2.length c2] 37))
      have hB' := Lib.hid (Buf.alloc hB (.cells #[.int .u8 x.f0, .string x.f1, .slice A2 x.f2.length c2] 37))
      have han : w.heap.size < wr.heap.size := hB.lt
      clear hx0 hx1 hx2 hB hb
      generalize wr.alloc (.cells #[.int .u8 x.f0, .string x.f1, .slice A2 x.f2.length c2] 37) = W1 at qb hb' hB' ⊢
      generalize wr.heap.size = a at qb han ⊢
      have QB := Lib.hid qb
      clear qb
      have hw0 : IntKind.i64.wrap x.f0 = x.f0 := by rw [IntKind.wrap_i64]; omega
      have hi0 := Lib.itoa_length_le x.f0 (by omega) (by omega)
      have hi1 := Lib.itoa_length_le (x.f2.length : Int) (by omega) (by omega)
      have hlx : (toI (headL l.length) ++ itemsL (l.take k)).length + ((itemHead x).length + x.f2.length + 1) ≤ 140737488355328 := by
        have h1 := HLE.out
        have h2 := HLM.out
        have h3 := HLIM.out
        have h4 := congrArg List.length h1
        unfold fileL bodyL at h3
        simp only [List.length_append, itemL, toI, List.length_map, List.length_cons, List.length_nil] at h3 h4 ⊢
        omega
      have hf1 : x.f1.size ≤ 140737488355328 := by
        have : x.f1.size ≤ (itemHead x).length := by
          unfold itemHead
          simp only [List.length_append, Array.length_toList]
          show x.f1.data.size ≤ _
          omega
        omega
      have HLX := Lib.hid hlx
      clear hlx
      have s0a : (9223372036854775807 < (Lib.itoa x.f0).length + 1) = False := eq_false (by omega)
      have s0b : ((Lib.itoa x.f0).length + 1 ≤ 9223372036854775807) = True := eq_true (by omega)
      have s1a : (9223372036854775807 < (Lib.itoa x.f0).length + 1 + x.f1.size) = False := eq_false (by omega)
      have s1b : ((Lib.itoa x.f0).length + 1 + x.f1.size ≤ 9223372036854775807) = True := eq_true (by omega)
      have s2a : (9223372036854775807 < (Lib.itoa x.f0).length + 1 + x.f1.size + 1) = False := eq_false (by omega)
      have s2b : ((Lib.itoa x.f0).length + 1 + x.f1.size + 1 ≤ 9223372036854775807) = True := eq_true (by omega)
      have s3a : (9223372036854775807 < (Lib.itoa x.f0).length + 1 + x.f1.size + 1 + (Lib.itoa (x.f2.length : Int)).length) = False := eq_false (by omega)
      have s3b : ((Lib.itoa x.f0).length + 1 + x.f1.size + 1 + (Lib.itoa (x.f2.length : Int)).length ≤ 9223372036854775807) = True := eq_true (by omega)
      have s4a : (9223372036854775807 < (Lib.itoa x.f0).length + 1 + x.f1.size + 1 + (Lib.itoa (x.f2.length : Int)).length + 1) = False := eq_false (by omega)
      have s4b : ((Lib.itoa x.f0).length + 1 + x.f1.size + 1 + (Lib.itoa (x.f2.length : Int)).length + 1 ≤ 9223372036854775807) = True := eq_true (by omega)
      have HP0 : Hid (Below W1.heap.size W1 W1.drew) := Lib.hid (below_drew1 (Below.refl _ _))
      go_region_held3 (fun W => W.cell? ⟨a, 0, none⟩ = some (.int .u8 x.f0) ∧ W.cell? ⟨a, 1, none⟩ = some (.string x.f1) ∧ W.cell? ⟨a, 2, none⟩ = some (.slice A2 x.f2.length c2) ∧ Hid (BoxAt 37 a #[.int .u8 x.f0, .string x.f1, .slice A2 x.f2.length c2] w W)) (first | exact BoxAt.start QB.out hb'.out | assumption)
        (first
          | (go_at_call 22; have hS := BoxAt.find (by assumption); have hp := since_find (W1 := W1) (by assumption); refine (Itoa_calls _ (by omega) (by omega) _ (Gl.below hS.below hG)).mono ?_; rintro e w' ⟨rfl, hbx⟩; have hS' := hS.mk3 hbx; have hp' := Lib.hid (below_step hp hbx); clear hS hp hbx)
          | (go_at_call 21; have hS := BoxAt.find (by assumption); have hp := since_find (W1 := W1) (by assumption); refine (Buf.writeString (hB'.out.old hp) _ (item_lim HLX.out)).mono ?_; rintro e w' ⟨rfl, hB3, hb3, ho3⟩; have hS' := hS.mk3' hb3 rfl ho3 (by decide) (Nat.ne_of_gt han); have HB3 := Lib.hid hB3; clear hB3 hS hp hb3 ho3))
      have hS := BoxAt.find (by assumption)
      have hB3 := buf_find (n := w.heap.size) (by assumption)
      rw [item_bytes] at hB3
      clear hp' HP0 s0a s0b s1a s1b s2a s2b s3a s3b s4a s4b
      have h2 : w'.cell? ⟨a, 2, none⟩ = some (.slice A2 x.f2.length c2) := (blk_cell hS.blk 2).trans rfl
      have hW' := Lib.hid hS.below
      have HB3 := Lib.hid hB3
      have hnn : w.heap.size ≤ w'.heap.size := hS.below.size
      clear hS hB3
      go_wp2_with fail
      refine (Buf.write HB3.out rfl hW'.out A2 c2 x.f2 HX2.out ?_).mono ?_
      · have := HLX.out
        simp only [List.length_append, toI, List.length_map] at this ⊢
        omega
      rintro e w3 ⟨rfl, hB4, hb4⟩
      have HB4 := Lib.hid hB4
      have hW3 := Lib.hid (hW'.out.trans hb4)
      clear h2 hB4 hb4
      go_wp2_with fail
      refine (Buf.writeByte HB4.out 10 ?_).mono ?_
      · have := HLX.out
        simp only [List.length_append, toI, List.length_map] at this ⊢
        omega
      rintro e w4 ⟨rfl, hB5, hb5, -⟩
      have HB5 := Lib.hid hB5
      have hW4 := Lib.hid (hW3.out.trans hb5)
      clear hB5 hb5
      go_wp2
      go_roundw
      case rel =>
        refine ⟨k + 1, hlt, by go_num, ?_, hW4.out⟩
        have h5 := HB5.out
        rw [HLE.out]
        unfold itemL
        simpa only [List.append_assoc] using h5
      case measure => simp [intOf]; omega
    · obtain rfl : k = l.length := by omega
      rw [List.take_length] at hB
      have HB : Hid (Buf w.heap.size (bodyL l) wr) := Lib.hid hB
      have Hb := Lib.hid hb
      have hl : (bodyL l).length + (lastL (bodyL l)).length ≤ 140737488355328 := by
        have := HLIM.out
        unfold fileL at this
        simpa [toI] using this
      have hG3 := Lib.hid (Gl.below hb hG)
      clear hB hb
      go_wp2_with fail
      refine (Buf.bytes HB.out).mono ?_
      rintro e w3 ⟨v, rfl, hv, ⟨m, rfl⟩⟩
      obtain ⟨A3, c3, rfl, hc3, hR3⟩ := Kd.R_reads (d := Kd.int .u8) (e := 5) (ok := fun _ => True) (Kd.R_of_own (enc := Value.int .u8) (h1 := fun _ => rfl) hv (fun _ _ => trivial))
      have HL := Lib.hid (last_calls (bodyL l) (by omega) (body_range l HO.out) A3 c3 (wr.drewN m) (hG3.out.drewN m) hR3 hc3)
      have HBm : Hid (Buf w.heap.size (bodyL l) (wr.drewN m)) := Lib.hid (Buf.old (n := w.heap.size) HB.out ⟨rfl, rfl, rfl, Nat.le_refl _, fun _ _ => rfl⟩)
      have Hbm := Lib.hid (pw_below_drewN Hb.out m)
      clear hv hR3 hc3
      go_wp2_with fail
      refine HL.out.mono ?_
      rintro e w4 ⟨rfl, hb4⟩
      have HB4 := Lib.hid (HBm.out.old hb4)
      have Hb4 := Lib.hid (below_step Hbm.out hb4)
      clear hb4
      go_wp2_with fail
      refine (Buf.writeString HB4.out ⟨(lastL (bodyL l)).toArray⟩ hl).mono ?_
      rintro e w5 ⟨rfl, hB5, hb5, -⟩
      have HB5 := Lib.hid hB5
      have Hb5 := Lib.hid (Hb4.out.trans hb5)
      clear hB5 hb5
      go_wp2_with fail
      refine (Buf.bytes HB5.out).mono ?_
      rintro e w6 ⟨v, rfl, hv, ⟨m6, rfl⟩⟩
      have HV := Lib.hid hv
      clear hv
      go_wp2
      go_ret
      exact ⟨v, rfl, Kd.R_of_own (enc := Value.int .u8) (h1 := fun _ => rfl) HV.out (fun _ _ => trivial), pw_below_drewN Hb5.out m6⟩
end Go.Proofs.YtfnahihdkbgleaaGreatDoor.Z
