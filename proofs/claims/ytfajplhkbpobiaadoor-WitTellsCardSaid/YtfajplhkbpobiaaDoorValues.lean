/- wit.values, wit.Values: the values of a line of digits. -/
import Derived.Test.YtfajplhkbpobiaaDoorRow
import Derived.Maps.OwnSet
import Derived.Maps.OwnOps
import Derived.OpenShut
namespace Go.Proofs.YtfajplhkbpobiaaDoor.Z
set_option linter.unusedVariables false
open Go.RowKit Go.WideMaps Go.Maps Go.Proofs.YtfajplhkbpobiaaDoorW.PrintWords
/-- The map of the digits so far. -/
def vD : Nat → DataW Unit
  | 0 => .map []
  | k + 1 => (vD k).put (.int .u8 (dg k)) (.lit (.int .u8 k))
def vd (c : Int) : Int := if c = 48 then 0 else if c = 49 then 1 else 2
def okD (c : Int) : Bool := decide (c = 48) || decide (c = 49) || decide (c = 120)
theorem vD_isMap : ∀ k, IsMap (vD k)
  | 0 => isMap_empty
  | k + 1 => by
    obtain ⟨es, h⟩ := vD_isMap k
    unfold vD
    rw [h]
    exact ⟨_, rfl⟩
theorem wf_u8 {x : Int} (h : 0 ≤ x ∧ x < 256) : (Lit.int .u8 x).wf = true := by
  have := wf_wrap .u8 x
  rwa [show IntKind.u8.wrap x = x by rw [IntKind.wrap_u8]; omega] at this
theorem u8_key : Keyed Tryd.prog 5 := int_keyed Tryd.underlying5
theorem zero_u8 (w : World) : (zeroValue 5).run Tryd.prog w = .ok (.int .u8 0) w := by kernel_rfl
theorem vD_has (c : Int) : Maps.has (vD 3) (.int .u8 c) = okD c := by
  have h0 : vD 3 = (((DataW.map ([] : List (Lit × DataW Unit))).put (.int .u8 48) (.lit (.int .u8 0))).put (.int .u8 49) (.lit (.int .u8 1))).put (.int .u8 120) (.lit (.int .u8 2)) := rfl
  unfold okD
  by_cases h3 : c = 120
  · subst h3
    rw [h0, has_put_same (by exact vD_isMap 2) (by trivial)]
    decide
  · rw [h0, has_put_other (fun e => h3 (by simpa using e))]
    by_cases h2 : c = 49
    · subst h2
      rw [has_put_same (by exact vD_isMap 1) (by trivial)]
      decide
    · rw [has_put_other (fun e => h2 (by simpa using e))]
      by_cases h1 : c = 48
      · subst h1
        rw [has_put_same (by exact vD_isMap 0) (by trivial)]
        decide
      · rw [has_put_other (fun e => h1 (by simpa using e))]
        simp [h1, h2, h3, Maps.has]
theorem vD_at (c : Int) (h : okD c = true) (z : DataW Unit) : (vD 3).atKey (.int .u8 c) z = .lit (.int .u8 (vd c)) := by
  have h0 : vD 3 = (((DataW.map ([] : List (Lit × DataW Unit))).put (.int .u8 48) (.lit (.int .u8 0))).put (.int .u8 49) (.lit (.int .u8 1))).put (.int .u8 120) (.lit (.int .u8 2)) := rfl
  by_cases h3 : c = 120
  · subst h3
    rw [h0, atKey_put_same (by exact vD_isMap 2) (by trivial)]
    rfl
  · rw [h0, atKey_put_other (fun e => h3 (by simpa using e))]
    by_cases h2 : c = 49
    · subst h2
      rw [atKey_put_same (by exact vD_isMap 1) (by trivial)]
      rfl
    · rw [atKey_put_other (fun e => h2 (by simpa using e))]
      by_cases h1 : c = 48
      · subst h1
        rw [atKey_put_same (by exact vD_isMap 0) (by trivial)]
        rfl
      · unfold okD at h
        simp [h1, h2, h3] at h
set_option maxHeartbeats 3200000 in
set_option maxRecDepth 100000 in
theorem values_calls (w : World) : Calls Tryd.prog 28 #[] w fun e w' => ∃ b, e = .returned (.map (some b)) ∧ w'.ownsMap Tryd.prog 5 (plainElem Tryd.prog 5) b 3 (vD 3) ∧ w.heap.size ≤ b ∧ Below w.heap.size w w' := by
  have hu := Tryd.underlying61
  have hmm := @run_makeMap Tryd.prog
  have i0 : ∀ w, (Instr.index 61 (.agg #[.int .u8 48, .int .u8 49, .int .u8 120]) (.int .i64 0)).run Tryd.prog w = .ok (.int .u8 48) w := fun w => by kernel_rfl
  have i1 : ∀ w, (Instr.index 61 (.agg #[.int .u8 48, .int .u8 49, .int .u8 120]) (.int .i64 1)).run Tryd.prog w = .ok (.int .u8 49) w := fun w => by kernel_rfl
  have i2 : ∀ w, (Instr.index 61 (.agg #[.int .u8 48, .int .u8 49, .int .u8 120]) (.int .i64 2)).run Tryd.prog w = .ok (.int .u8 120) w := fun w => by kernel_rfl
  go_enter Tryd.func28, Tryd.ntmps28
  go_wp2_with fail
  refine (digits_calls _).mono ?_
  rintro e w1 ⟨rfl, hb1⟩
  have hown1 : w1.ownsMap Tryd.prog 5 (plainElem Tryd.prog 5) w.heap.size 0 (vD 0) := (World.ownsMap_made _ _ _ _).kept (grown_of_below hb1 none) (by simp)
  have HO1 := Lib.hid hown1
  have HB1 := Lib.hid (below_step ((Below.refl _ _).alloc (Nat.le_refl _) _) hb1)
  clear hown1 hb1
  go_wp2_with fail
  go_loopw [6] (fun i wr => ∃ (k : Nat), k ≤ 3 ∧ i = .int .i64 (k : Int) ∧ Hid (wr.ownsMap Tryd.prog 5 (plainElem Tryd.prog 5) w.heap.size k (vD k)) ∧ Hid (Below w.heap.size w wr)) (fun i _ => 3 - (intOf i).toNat)
  case atStart => exact ⟨0, by omega, rfl, HO1, HB1⟩
  case round =>
    clear HO1 HB1
    obtain ⟨k, hk, rfl, HO, HB⟩ := hrel
    have hk4 : k = 0 ∨ k = 1 ∨ k = 2 ∨ k = 3 := by omega
    rcases hk4 with rfl | rfl | rfl | rfl
    · go_wp2_with (at_mapUpdate; refine wpList_mapUpdate_own _ rfl _ _ _ 54 rfl 5 5 u8_key Tryd.underlying54 _ w.heap.size 0 _ rfl HO.out (by unfold maxLen; omega) _ _ _ rfl rfl (keyOf_int_mk Tryd.underlying5 (a := 48) (by decide)) _ [] (plainElem_int Tryd.underlying5 (a := 0) (by decide)) ?_)
      intro w2 hown2 hg2
      have HO2 := Lib.hid hown2
      have HB2 := Lib.hid (HB.out.grown hg2 HB.out.size (fun j hj => by cases hj; exact Nat.le_refl _))
      clear hown2 hg2 HO HB
      go_wp2_with fail
      go_roundw
      case rel => exact ⟨1, by omega, rfl, HO2, HB2⟩
      case measure => decide
    · go_wp2_with (at_mapUpdate; refine wpList_mapUpdate_own _ rfl _ _ _ 54 rfl 5 5 u8_key Tryd.underlying54 _ w.heap.size 1 _ rfl HO.out (by unfold maxLen; omega) _ _ _ rfl rfl (keyOf_int_mk Tryd.underlying5 (a := 49) (by decide)) _ [] (plainElem_int Tryd.underlying5 (a := 1) (by decide)) ?_)
      intro w2 hown2 hg2
      have HO2 := Lib.hid hown2
      have HB2 := Lib.hid (HB.out.grown hg2 HB.out.size (fun j hj => by cases hj; exact Nat.le_refl _))
      clear hown2 hg2 HO HB
      go_wp2_with fail
      go_roundw
      case rel => exact ⟨2, by omega, rfl, HO2, HB2⟩
      case measure => decide
    · go_wp2_with (at_mapUpdate; refine wpList_mapUpdate_own _ rfl _ _ _ 54 rfl 5 5 u8_key Tryd.underlying54 _ w.heap.size 2 _ rfl HO.out (by unfold maxLen; omega) _ _ _ rfl rfl (keyOf_int_mk Tryd.underlying5 (a := 120) (by decide)) _ [] (plainElem_int Tryd.underlying5 (a := 2) (by decide)) ?_)
      intro w2 hown2 hg2
      have HO2 := Lib.hid hown2
      have HB2 := Lib.hid (HB.out.grown hg2 HB.out.size (fun j hj => by cases hj; exact Nat.le_refl _))
      clear hown2 hg2 HO HB
      go_wp2_with fail
      go_roundw
      case rel => exact ⟨3, by omega, rfl, HO2, HB2⟩
      case measure => decide
    · go_wp2_with fail
      go_ret
      exact ⟨_, rfl, HO.out, Nat.le_refl _, HB.out⟩
/-- What Values answers. -/
def valuesF (l : List Int) (many : Int) : List Int × Int := if (l.length : Int) = many then (if l.all okD then (l.map vd, 0) else ([], 5)) else ([], 5)
set_option maxHeartbeats 3200000 in
set_option maxRecDepth 100000 in
theorem Values_calls (l : List Int) (many : Int) (hlen : l.length ≤ 140737488351232) (hby : ∀ c ∈ l, 0 ≤ c ∧ c < 256) (A0 : Option Addr) (c0 : Nat) (w : World) (hr : Kd.C (Kd.int .u8) w A0 l.length l) (hc : l.length ≤ c0) :
    Calls Tryd.prog 14 #[.slice A0 l.length c0, .int .i64 many] w fun e w' => ∃ v0_ : Value, e = .returned (.tuple #[v0_, .int .i64 (valuesF l many).2]) ∧ Kd.R (Kd.int .u8) 5 w' w.heap.size (fun _ => True) v0_ (valuesF l many).1 ∧ Below w.heap.size w w' := by
  have HR := Lib.hid hr
  have HBY := Lib.hid hby
  clear hr hby
  by_cases hm : (l.length : Int) = many
  · have hmb : ((l.length : Int) != many) = false := by rw [hm]; exact bne_self_eq_false _
    have HF : Hid (valuesF l many = if l.all okD then (l.map vd, 0) else ([], 5)) := Lib.hid (by unfold valuesF; rw [if_pos hm])
    clear hm
    go_enter Tryd.func14, Tryd.ntmps14
    go_wp2_with fail
    refine (values_calls w).mono ?_
    rintro e w1 ⟨b, rfl, hown, hbb, hb1⟩
    have HO1 := Lib.hid hown
    have HB1 := Lib.hid hb1
    clear hown hb1
    go_wp2_with fail
    go_loopw [4, 18] (fun v i wr => ∃ (k : Nat), k ≤ l.length ∧ i = .int .i64 (k : Int) ∧ Hid (Kd.R (Kd.int .u8) 5 wr w1.heap.size (fun _ => True) v ((l.take k).map vd)) ∧ Hid (Below w1.heap.size w1 wr) ∧ Hid ((l.take k).all okD = true)) (fun _ i _ => l.length - (intOf i).toNat)
    case atStart => exact ⟨0, Nat.zero_le _, rfl, Lib.hid (Kd.R_nil _ _ _ _ _), Lib.hid (Below.refl _ _), Lib.hid rfl⟩
    case round =>
      obtain ⟨k, hk, rfl, HV, HB, HE⟩ := hrel
      by_cases hlt : k < l.length
      · have hlt' : (k : Int) < (l.length : Int) := Int.ofNat_lt.2 hlt
        obtain ⟨ad, rfl, hx⟩ := ReadsOf.at_ (Kd.reads_of_C (d := (0 : Int)) (Kd.C_below (Kd.C_below HR.out HB1.out) HB.out)) (k : Int) (by omega) (by omega)
        have hxe : rdOf (0 : Int) l (k : Int) = l[k] := by simp [rdOf, List.getD, hlt]
        rw [hxe, Int.toNat_natCast] at hx
        have hxb := HBY.out _ (List.getElem_mem hlt)
        have HTK : Hid (∀ x, l[k] = x → (l.take (k + 1)).map vd = (l.take k).map vd ++ [vd x]) := Lib.hid (fun x e => by rw [List.take_succ_eq_append_getElem hlt, List.map_append, e]; rfl)
        have HAL : Hid (∀ x, l[k] = x → okD x = true → (l.take (k + 1)).all okD = true) := Lib.hid (fun x e h => by rw [List.take_succ_eq_append_getElem hlt, List.all_append, HE.out, e]; simp [h])
        have HNO : Hid (∀ x, l[k] = x → okD x = false → l.all okD = false) := Lib.hid (fun x e h => by
          rw [List.all_eq_false]
          exact ⟨_, List.getElem_mem hlt, by rw [e, h]; decide⟩)
        have hlk : (((l.take k).map vd).length + 1) * 1 ≤ 140737488355328 := by rw [List.length_map, List.length_take]; omega
        have hown := HO1.out.kept (grown_of_below HB.out none) (by simp)
        clear hxe
        generalize hxx : l[k] = x at *
        clear hxx
        have hkey : keyOf Tryd.prog 5 (.int .u8 x) = some (.int .u8 x) := keyOf_int_mk Tryd.underlying5 (wf_u8 hxb)
        obtain ⟨v', hv'⟩ : ∃ v', v' = (l.take k).map vd := ⟨_, rfl⟩
        rw [← hv'] at HV hlk
        have HVE := Lib.hid hv'
        have HOW := Lib.hid hown
        have HKY := Lib.hid hkey
        clear hv' hown hkey
        go_wp2_with (at_lookup; refine wpList_lookup_own_ok_int _ rfl _ _ 54 rfl 5 5 .u8 u8_key Tryd.underlying54 Tryd.underlying5 (zero_u8 _) b 3 (vD 3) rfl HOW.out _ _ rfl HKY.out ?_)
        intro c hat hwc
        rw [vD_has]
        cases hok : okD x
        · have hall := HNO.out x rfl hok
          have HF2 : Hid (valuesF l many = ([], 5)) := Lib.hid (by rw [HF.out, hall]; rfl)
          clear hat hwc hok hall HTK HAL HNO
          go_wp2_with fail
          go_ret2
          rw [HF2.out]
          exact ⟨_, rfl, Kd.R_nil _ _ _ _ _, below_step HB1.out HB.out⟩
        · rw [vD_at x hok] at hat
          have hc : vd x = c := by
            injection hat with e
            injection e
          have HA2 := Lib.hid (HAL.out x rfl hok)
          have HT2 := Lib.hid (HTK.out x rfl)
          subst hc
          clear hat hwc hok HTK HAL HNO
          go_wp2_with (at_builtin; refine Kd.R_append (Kd.int .u8) (w0 := w1) w1.heap.size rfl _ _ 22 5 (.int .u8 0) 1 rfl Tryd.underlying22 info_u8b rfl (by decide) (by decide) u4 v' (vd x) [.int .u8 (vd x)] (fun _ => True) (fun _ => False) rfl rfl ?hp (fun _ h => h.elim) (fun _ _ => trivial) HV.out HB.out HB.out.size hlk ?_; (case hp => exact (show Kd.M (Kd.int .u8) _ _ _ (vd x) [.int .u8 (vd x)] from rfl)))
          intro v1 w2 hR2 hB2 _ _
          have HR2 := Lib.hid (show Kd.R (Kd.int .u8) 5 w2 w1.heap.size (fun _ => True) v1 ((l.take (k + 1)).map vd) from by rw [HT2.out, ← HVE.out]; exact hR2)
          have HB2 := Lib.hid hB2
          clear hR2 hB2 HVE HV HB HE hlk HOW HKY hx hxb HT2
          go_wp2_with fail
          go_roundw
          case rel => exact ⟨k + 1, hlt, by go_num, HR2, HB2, HA2⟩
          case measure =>
            simp [intOf]
            omega
      · obtain rfl : k = l.length := by omega
        rw [List.take_length] at HV HE
        have HF2 : Hid (valuesF l many = (l.map vd, 0)) := Lib.hid (by rw [HF.out, HE.out]; rfl)
        go_wp2_with fail
        go_ret2
        rw [HF2.out]
        exact ⟨_, rfl, Kd.R_lower HV.out HB1.out.size, below_step HB1.out HB.out⟩
  · have hmb : ((l.length : Int) != many) = true := bne_iff_ne.2 hm
    have HF : Hid (valuesF l many = ([], 5)) := Lib.hid (by unfold valuesF; rw [if_neg hm])
    clear hm
    go_enter Tryd.func14, Tryd.ntmps14
    go_wp2_with fail
    go_ret2
    rw [HF.out]
    exact ⟨_, rfl, Kd.R_nil _ _ _ _ _, Below.refl _ _⟩
def wit_Values.f (l0 : List Int) (a1 : Int) : Option (List Int × Int) := if l0.length ≤ 140737488351232 ∧ ∀ c ∈ l0, 0 ≤ c ∧ c < 256 then some (valuesF l0 a1) else none
theorem wit_Values.calls (A0 : Option Addr) (c0 : Nat) (l0 : List Int) (a1 : Int) (r1 : List Int) (r2 : Int) (w : World) (hr0 : Kd.C (Kd.int .u8) w A0 l0.length l0) (hc0 : l0.length ≤ c0) (h : wit_Values.f l0 a1 = some (r1, r2)) :
    Calls Tryd.prog 14 #[.slice A0 l0.length c0, .int .i64 a1] w fun e w' => ∃ v0_ : Value, e = .returned (.tuple #[v0_, .int .i64 r2]) ∧ Kd.R (Kd.int .u8) 5 w' w.heap.size (fun _ => True) v0_ r1 ∧ Below w.heap.size w w' := by
  unfold wit_Values.f at h
  split at h
  · rename_i hok
    have h' := Option.some.inj h
    have hh := Values_calls l0 a1 hok.1 hok.2 A0 c0 w hr0 hc0
    rw [h'] at hh
    exact hh
  · cases h
end Go.Proofs.YtfajplhkbpobiaaDoor.Z
