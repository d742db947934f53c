/- slices.ContainsFunc with store.Add's test: does a name stand among the items? -/
import Derived.Test.YtfnahihdkbgleaaGreatDoorFile
import Derived.Test.YtfnahihdkbgleaaGreatDoorMay
namespace Go.Proofs.YtfnahihdkbgleaaGreatDoor.Z
set_option linter.unusedVariables false
open Go.RowKit Go.Proofs.YtfnahihdkbgleaaGreatDoorW.PrintWords
def hasB (l : List It) (s : ByteArray) : Bool := l.any fun y => y.f1.toList == s.toList
set_option maxHeartbeats 1600000 in
theorem same_calls (y : It) (A2 : Option Addr) (c2 : Nat) (s : ByteArray) (a : Nat) (w : World) (hs : w.cell? ⟨a, 1, none⟩ = some (.string s)) :
    Calls Tryz.prog 20 #[.agg #[.int .u8 y.f0, .string y.f1, .slice A2 y.f2.length c2], .pointer (some ⟨a, 0, none⟩)] w fun e w' => e = .returned (.bool (y.f1.toList == s.toList)) ∧ Below w.heap.size w w' := by
  have hu := Tryz.underlying37
  have hba : Below w.heap.size w (w.alloc (.cells #[.int .u8 y.f0, .string y.f1, .slice A2 y.f2.length c2] 37)) := (Below.refl _ _).alloc (Nat.le_refl _) _
  have hs2 : (w.alloc (.cells #[.int .u8 y.f0, .string y.f1, .slice A2 y.f2.length c2] 37)).cell? ⟨a, 1, none⟩ = some (.string s) := (hba.cell (World.block_lt_of_cell? w _ hs)).trans hs
  have HB := Lib.hid hba
  clear hba
  go_enter Tryz.func20, Tryz.ntmps20
  go_wp2
  go_ret
  refine ⟨?_, HB.out⟩
  rfl
theorem has_take (l : List It) (s : ByteArray) (k : Nat) (hk : k < l.length) (h : hasB (l.take k) s = false) : hasB (l.take (k + 1)) s = (l[k].f1.toList == s.toList) := by
  rw [List.take_succ_eq_append_getElem hk]
  unfold hasB at h ⊢
  rw [List.any_append, h]
  simp
theorem has_true (l : List It) (s : ByteArray) (k : Nat) (h : hasB (l.take k) s = true) : hasB l s = true := by
  unfold hasB at h ⊢
  rw [List.any_eq_true] at h ⊢
  obtain ⟨x, hx, hp⟩ := h
  exact ⟨x, List.mem_of_mem_take hx, hp⟩
set_option maxHeartbeats 3200000 in
set_option maxRecDepth 100000 in
theorem index_calls (l : List It) (s : ByteArray) (a : Nat) (hlen : l.length ≤ 1000000000000) (A0 : Option Addr) (c0 : Nat) (w : World) (hr : Kd.C k37 w A0 l.length l) (hc : l.length ≤ c0) (hs : w.cell? ⟨a, 1, none⟩ = some (.string s)) :
    Calls Tryz.prog 36 #[.slice A0 l.length c0, .func (.func 20) #[] #[.pointer (some ⟨a, 0, none⟩)]] w fun e w' => (∃ z : Int, e = .returned (.int .i64 z) ∧ (0 ≤ z ↔ hasB l s = true)) ∧ Below w.heap.size w w' := by
  have HR := Lib.hid hr
  clear hr
  have hu := Tryz.underlying37
  have HS := Lib.hid hs
  clear hs
  go_enter Tryz.func36, Tryz.ntmps36
  go_wp2_with fail
  go_loopw [8] (fun i wr => ∃ (k : Nat), k ≤ l.length ∧ i = .int .i64 (k : Int) ∧ hasB (l.take k) s = false ∧ Below w.heap.size w wr) (fun i _ => l.length - (intOf i).toNat)
  case atStart => exact ⟨0, Nat.zero_le _, rfl, rfl, Below.refl _ _⟩
  case round =>
    obtain ⟨k, hk, rfl, hE, hb⟩ := hrel
    by_cases hlt : k < l.length
    · have hlt' : (k : Int) < (l.length : Int) := by omega
      obtain ⟨ad, A2, c2, rfl, hx0, hx1, hx2, hl2, hr2⟩ := at_T37 HR.out (k : Int) (by omega) (by omega)
      have hxe : rd_T37 l (k : Int) = l[k] := by simp [rd_T37, List.getD, hlt]
      rw [hxe] at hx0 hx1 hx2 hl2 hr2
      simp only [Int.toNat_natCast] at hx0 hx1 hx2
      have HET := Lib.hid (has_take l s k hlt hE)
      have HTR := Lib.hid (has_true l s (k + 1))
      clear hr2 hl2 hxe
      generalize hxx : l[k] = x at *
      have HXX := Lib.hid hxx
      clear hxx
      replace hx0 := (hb.cell (World.block_lt_of_cell? w _ hx0)).trans hx0
      replace hx1 := (hb.cell (World.block_lt_of_cell? w _ hx1)).trans hx1
      replace hx2 := (hb.cell (World.block_lt_of_cell? w _ hx2)).trans hx2
      have hs1 : wr.cell? ⟨a, 1, none⟩ = some (.string s) := (hb.cell (World.block_lt_of_cell? w _ HS.out)).trans HS.out
      have HC := Lib.hid (same_calls x A2 c2 s a wr hs1)
      have hb' := Lib.hid hb
      clear hb hs1
      cases hf : (x.f1.toList == s.toList)
      · rw [hf] at HC HET
        clear hf
        go_wp2_with (go_at_call 20; refine HC.out.mono ?_; rintro e w1 ⟨rfl, hb1⟩)
        have hbz := Lib.hid (below_then hb'.out hb'.out.size (by assumption))
        go_roundw
        case rel => exact ⟨k + 1, hlt, by go_num, HET.out, hbz.out⟩
        case measure =>
          simp [intOf]
          exact Nat.sub_lt_sub_left hlt (Nat.lt_succ_self k)
      · rw [hf] at HC HET
        clear hf
        go_wp2_with (go_at_call 20; refine HC.out.mono ?_; rintro e w1 ⟨rfl, hb1⟩)
        have hbz := Lib.hid (below_then hb'.out hb'.out.size (by assumption))
        have hh := HTR.out HET.out
        go_ret
        exact ⟨⟨_, rfl, by simp [hh]⟩, hbz.out⟩
    · obtain rfl : k = l.length := by omega
      rw [List.take_length] at hE
      have hE' := Lib.hid hE
      have hb' := Lib.hid hb
      clear hE hb
      go_wp2
      go_ret
      exact ⟨⟨_, rfl, by simp [hE'.out]⟩, hb'.out⟩
set_option maxHeartbeats 1600000 in
theorem has_calls (l : List It) (s : ByteArray) (a : Nat) (hlen : l.length ≤ 1000000000000) (A0 : Option Addr) (c0 : Nat) (w : World) (hr : Kd.C k37 w A0 l.length l) (hc : l.length ≤ c0) (hs : w.cell? ⟨a, 1, none⟩ = some (.string s)) :
    Calls Tryz.prog 19 #[.slice A0 l.length c0, .func (.func 20) #[] #[.pointer (some ⟨a, 0, none⟩)]] w fun e w' => e = .returned (.bool (hasB l s)) ∧ Below w.heap.size w w' := by
  have HI := Lib.hid (index_calls l s a hlen A0 c0 w hr hc hs)
  clear hr hs
  go_enter Tryz.func19, Tryz.ntmps19
  go_wp2_with (go_at_call 36; refine HI.out.mono ?_; rintro e w1 ⟨⟨z, rfl, hz⟩, hb1⟩)
  go_ret
  exact ⟨rfl, by assumption⟩
end Go.Proofs.YtfnahihdkbgleaaGreatDoor.Z
