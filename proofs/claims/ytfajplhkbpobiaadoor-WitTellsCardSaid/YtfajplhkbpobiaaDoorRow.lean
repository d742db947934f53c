/- wit.digits, wit.row: values as a line. -/
import Derived.Test.YtfajplhkbpobiaaDoorZ0
import Derived.Test.YtfajplhkbpobiaaDoorLex
namespace Go.Proofs.YtfajplhkbpobiaaDoor.Z
set_option linter.unusedVariables false
open Go.RowKit Go.Proofs.YtfajplhkbpobiaaDoorW.PrintWords
theorem info_u8b : (Tryd.prog.info? 5).map (fun i => (i.zero, i.size, i.bytes)) = some (some (.int .u8 0), (Kd.int .u8).sz, 1) := by kernel_rfl
/-- The results: an array in a cell's place. -/
theorem digits_results (g : Nat) (tmps : Array Value) (W : World) (a b c : Value) (ht : tmps.getD 0 undef = .pointer (some ⟨g, 0, none⟩)) (h0 : W.cell? ⟨g, 0, none⟩ = some a) (h1 : W.cell? ⟨g, 1, none⟩ = some b) (h2 : W.cell? ⟨g, 2, none⟩ = some c) :
    (results Tryd.f33 tmps).run Tryd.prog W = .ok (.agg #[a, b, c]) W := by
  have hf : Tryd.f33.results = #[.cell 0 61] := rfl
  have hu := Tryd.underlying61
  have ht' : tmps[0]?.getD undef = .pointer (some ⟨g, 0, none⟩) := by simpa using ht
  simp only [results, hf]
  simp [ht', go_sem, h0, h1, h2]
set_option maxHeartbeats 1600000 in
theorem digits_calls (w : World) : Calls Tryd.prog 33 #[] w fun e w' => e = .returned (.agg #[.int .u8 48, .int .u8 49, .int .u8 120]) ∧ Below w.heap.size w w' := by
  have hu := Tryd.underlying61
  have hbk := blk_new w (.cells #[.int .u8 0, .int .u8 0, .int .u8 0] 61)
  have z0 := blk_frozen hbk 0
  go_enter Tryd.func33, Tryd.ntmps33
  go_wp2_with fail
  (try simp only [Exit.inBlock, Exit.then])
  have hk2 := blk_new w (.cells #[.int .u8 48, .int .u8 49, .int .u8 120] 61)
  refine bodyPost_ret (digits_results w.heap.size _ _ (.int .u8 48) (.int .u8 49) (.int .u8 120) rfl ((blk_cell hk2 0).trans rfl) ((blk_cell hk2 1).trans rfl) ((blk_cell hk2 2).trans rfl)) rfl ?_
  exact ⟨rfl, (Below.refl _ _).alloc (Nat.le_refl _) _⟩
/-- A value's digit. -/
def dg (v : Int) : Int := if v = 0 then 48 else if v = 1 then 49 else 120
def rowF (l : List Int) : List Int × Bool := if l.all (fun v => decide (v ≤ 2)) then (l.map dg ++ [10], decide (l.length ≤ 16384)) else ([], false)
set_option maxHeartbeats 3200000 in
set_option maxRecDepth 100000 in
theorem row_calls (l : List Int) (hlen : l.length ≤ 140737488351232) (hby : ∀ c ∈ l, 0 ≤ c ∧ c < 256) (A0 : Option Addr) (c0 : Nat) (w : World) (hr : Kd.C (Kd.int .u8) w A0 l.length l) (hc : l.length ≤ c0) :
    Calls Tryd.prog 20 #[.slice A0 l.length c0] w fun e w' => ∃ v0_ : Value, e = .returned (.tuple #[v0_, .bool (rowF l).2]) ∧ Kd.R (Kd.int .u8) 5 w' w.heap.size (fun _ => True) v0_ (rowF l).1 ∧ Below w.heap.size w w' := by
  have HR := Lib.hid hr
  have HBY := Lib.hid hby
  have hu := Tryd.underlying61
  have i0 : ∀ w, (Instr.index 61 (.agg #[.int .u8 48, .int .u8 49, .int .u8 120]) (.int .u8 0)).run Tryd.prog w = .ok (.int .u8 48) w := fun w => by kernel_rfl
  have i1 : ∀ w, (Instr.index 61 (.agg #[.int .u8 48, .int .u8 49, .int .u8 120]) (.int .u8 1)).run Tryd.prog w = .ok (.int .u8 49) w := fun w => by kernel_rfl
  have i2 : ∀ w, (Instr.index 61 (.agg #[.int .u8 48, .int .u8 49, .int .u8 120]) (.int .u8 2)).run Tryd.prog w = .ok (.int .u8 120) w := fun w => by kernel_rfl
  clear hr hby
  go_enter Tryd.func20, Tryd.ntmps20
  go_wp2_with fail
  go_loopw [2, 8] (fun v i wr => ∃ (k : Nat), k ≤ l.length ∧ i = .int .i64 (k : Int) ∧ Hid (Kd.R (Kd.int .u8) 5 wr w.heap.size (fun _ => True) v ((l.take k).map dg)) ∧ Hid (Below w.heap.size w wr) ∧ Hid ((l.take k).all (fun v => decide (v ≤ 2)) = true)) (fun _ i _ => l.length - (intOf i).toNat)
  case atStart => exact ⟨0, Nat.zero_le _, rfl, Lib.hid (Kd.R_nil _ _ _ _ _), Lib.hid (Below.refl _ _), Lib.hid rfl⟩
  case round =>
    obtain ⟨k, hk, rfl, HV, HB, HE⟩ := hrel
    by_cases hlt : k < l.length
    · have hlt' : (k : Int) < (l.length : Int) := Int.ofNat_lt.2 hlt
      obtain ⟨ad, rfl, hx⟩ := ReadsOf.at_ (Kd.reads_of_C (d := (0 : Int)) (Kd.C_below HR.out HB.out)) (k : Int) (by omega) (by omega)
      have hxe : rdOf (0 : Int) l (k : Int) = l[k] := by simp [rdOf, List.getD, hlt]
      rw [hxe, Int.toNat_natCast] at hx
      have hxb := HBY.out _ (List.getElem_mem hlt)
      have HTK : Hid (∀ x, l[k] = x → (l.take (k + 1)).map dg = (l.take k).map dg ++ [dg x]) := Lib.hid (fun x e => by rw [List.take_succ_eq_append_getElem hlt, List.map_append, e]; rfl)
      have HAL : Hid (∀ x, l[k] = x → x ≤ 2 → (l.take (k + 1)).all (fun v => decide (v ≤ 2)) = true) := Lib.hid (fun x e h => by rw [List.take_succ_eq_append_getElem hlt, List.all_append, HE.out, e]; simp [h])
      have HNO : Hid (∀ x, l[k] = x → ¬ x ≤ 2 → rowF l = ([], false)) := Lib.hid (fun x e h => by
        unfold rowF
        rw [if_neg]
        intro ha
        have := List.all_eq_true.1 ha _ (List.getElem_mem hlt)
        rw [e] at this
        exact h (by simpa using this))
      have hlk : (((l.take k).map dg).length + 1) * 1 ≤ 140737488355328 := by rw [List.length_map, List.length_take]; omega
      clear hxe
      generalize hxx : l[k] = x at *
      clear hxx
      by_cases h2 : x ≤ 2
      · have h2' : ¬ 2 < x := by omega
        obtain ⟨v', hv'⟩ : ∃ v', v' = (l.take k).map dg := ⟨_, rfl⟩
        rw [← hv'] at HV hlk
        have HVE := Lib.hid hv'
        clear hv'
        have hx3 : x = 0 ∨ x = 1 ∨ x = 2 := by omega
        clear HNO hlt'
        have hlt' : (k : Int) < (l.length : Int) := Int.ofNat_lt.2 hlt
        go_wp2_with fail
        refine (digits_calls wr).mono ?_
        rintro e w1 ⟨rfl, hb1⟩
        have HB1 := Lib.hid (below_then HB.out HB.out.size hb1)
        have HV1 := Lib.hid (Kd.R_below HV.out hb1)
        clear hb1 hx
        rcases hx3 with rfl | rfl | rfl
        · go_wp2_with (at_builtin; refine Kd.R_append (Kd.int .u8) (w0 := w) w.heap.size rfl _ _ 22 5 (.int .u8 0) 1 rfl Tryd.underlying22 info_u8b rfl (by decide) (by decide) u2 v' 48 [.int .u8 48] (fun _ => True) (fun _ => False) rfl rfl ?hp (fun _ h => h.elim) (fun _ _ => trivial) HV1.out HB1.out HB1.out.size hlk ?_; (case hp => exact (show Kd.M (Kd.int .u8) _ _ _ 48 [.int .u8 48] from rfl)))
          intro v1 w2 hR2 hB2 _ _
          have HR2 := Lib.hid (show Kd.R (Kd.int .u8) 5 w2 w.heap.size (fun _ => True) v1 ((l.take (k + 1)).map dg) from by rw [HTK.out _ rfl, ← HVE.out]; exact hR2)
          have HB2 := Lib.hid hB2
          have HA2 := Lib.hid (HAL.out _ rfl (by decide))
          clear hR2 hB2 HV1 HB1 HTK HAL HVE HV HB HE hlk i0 i1 i2
          go_wp2_with fail
          go_roundw
          case rel => exact ⟨k + 1, hlt, by go_num, HR2, HB2, HA2⟩
          case measure =>
            simp [intOf]
            omega
        · go_wp2_with (at_builtin; refine Kd.R_append (Kd.int .u8) (w0 := w) w.heap.size rfl _ _ 22 5 (.int .u8 0) 1 rfl Tryd.underlying22 info_u8b rfl (by decide) (by decide) u2 v' 49 [.int .u8 49] (fun _ => True) (fun _ => False) rfl rfl ?hp (fun _ h => h.elim) (fun _ _ => trivial) HV1.out HB1.out HB1.out.size hlk ?_; (case hp => exact (show Kd.M (Kd.int .u8) _ _ _ 49 [.int .u8 49] from rfl)))
          intro v1 w2 hR2 hB2 _ _
          have HR2 := Lib.hid (show Kd.R (Kd.int .u8) 5 w2 w.heap.size (fun _ => True) v1 ((l.take (k + 1)).map dg) from by rw [HTK.out _ rfl, ← HVE.out]; exact hR2)
          have HB2 := Lib.hid hB2
          have HA2 := Lib.hid (HAL.out _ rfl (by decide))
          clear hR2 hB2 HV1 HB1 HTK HAL HVE HV HB HE hlk i0 i1 i2
          go_wp2_with fail
          go_roundw
          case rel => exact ⟨k + 1, hlt, by go_num, HR2, HB2, HA2⟩
          case measure =>
            simp [intOf]
            omega
        · go_wp2_with (at_builtin; refine Kd.R_append (Kd.int .u8) (w0 := w) w.heap.size rfl _ _ 22 5 (.int .u8 0) 1 rfl Tryd.underlying22 info_u8b rfl (by decide) (by decide) u2 v' 120 [.int .u8 120] (fun _ => True) (fun _ => False) rfl rfl ?hp (fun _ h => h.elim) (fun _ _ => trivial) HV1.out HB1.out HB1.out.size hlk ?_; (case hp => exact (show Kd.M (Kd.int .u8) _ _ _ 120 [.int .u8 120] from rfl)))
          intro v1 w2 hR2 hB2 _ _
          have HR2 := Lib.hid (show Kd.R (Kd.int .u8) 5 w2 w.heap.size (fun _ => True) v1 ((l.take (k + 1)).map dg) from by rw [HTK.out _ rfl, ← HVE.out]; exact hR2)
          have HB2 := Lib.hid hB2
          have HA2 := Lib.hid (HAL.out _ rfl (by decide))
          clear hR2 hB2 HV1 HB1 HTK HAL HVE HV HB HE hlk i0 i1 i2
          go_wp2_with fail
          go_roundw
          case rel => exact ⟨k + 1, hlt, by go_num, HR2, HB2, HA2⟩
          case measure =>
            simp [intOf]
            omega
      · have h2' : 2 < x := by omega
        have HN := Lib.hid (HNO.out x rfl h2)
        clear HTK HAL HNO h2
        go_wp2_with fail
        go_ret2
        rw [HN.out]
        exact ⟨_, rfl, Kd.R_nil _ _ _ _ _, HB.out⟩
    · obtain rfl : k = l.length := by omega
      rw [List.take_length] at HV HE
      have HF : Hid (rowF l = (l.map dg ++ [10], decide (l.length ≤ 16384))) := Lib.hid (by unfold rowF; rw [if_pos HE.out])
      have hlk : ((l.map dg).length + 1) * 1 ≤ 140737488355328 := by rw [List.length_map]; omega
      clear HE
      generalize l.map dg = v' at *
      go_wp2_with (at_builtin; refine Kd.R_append (Kd.int .u8) (w0 := w) w.heap.size rfl _ _ 22 5 (.int .u8 0) 1 rfl Tryd.underlying22 info_u8b rfl (by decide) (by decide) u2 v' 10 [.int .u8 10] (fun _ => True) (fun _ => False) rfl rfl ?hp (fun _ h => h.elim) (fun _ _ => trivial) HV.out HB.out HB.out.size hlk ?_; (case hp => exact (show Kd.M (Kd.int .u8) _ _ _ 10 [.int .u8 10] from rfl)))
      intro v1 w2 hR2 hB2 _ _
      have HR2 := Lib.hid hR2
      have HB2 := Lib.hid hB2
      clear hR2 hB2
      go_wp2_with fail
      go_ret2
      rw [HF.out]
      refine ⟨_, ?_, HR2.out, HB2.out⟩
      simp
      omega
def wit_row.f (l0 : List Int) : Option (List Int × Bool) := if l0.length ≤ 140737488351232 ∧ ∀ c ∈ l0, 0 ≤ c ∧ c < 256 then some (rowF l0) else none
theorem wit_row.calls (A0 : Option Addr) (c0 : Nat) (l0 : List Int) (r1 : List Int) (r2 : Bool) (w : World) (hr0 : Kd.C (Kd.int .u8) w A0 l0.length l0) (hc0 : l0.length ≤ c0) (h : wit_row.f l0 = some (r1, r2)) :
    Calls Tryd.prog 20 #[.slice A0 l0.length c0] w fun e w' => ∃ v0_ : Value, e = .returned (.tuple #[v0_, .bool r2]) ∧ Kd.R (Kd.int .u8) 5 w' w.heap.size (fun _ => True) v0_ r1 ∧ Below w.heap.size w w' := by
  unfold wit_row.f at h
  split at h
  · rename_i hok
    have h' := Option.some.inj h
    have hh := row_calls l0 hok.1 hok.2 A0 c0 w hr0 hc0
    rw [h'] at hh
    exact hh
  · cases h
end Go.Proofs.YtfajplhkbpobiaaDoor.Z
