/- inquestlaw05.lives is true. -/
import Derived.Test.YtfajplhkbpobiaaDoorZ2
import Derived.Test.YtfajplhkbpobiaaDoorZ3
import Derived.Test.YtfajplhkbpobiaaDoorPut
namespace Go.Proofs.YtfajplhkbpobiaaDoor.Z
set_option linter.unusedVariables false
open Go.RowKit Go.Proofs.YtfajplhkbpobiaaDoorW.PrintWords Go.Proofs.YtfajplhkbpobiaaDoorW.PrintWords.Kd
theorem rows_new (W : World) (g : Nat) (t : TypeId) (cs : List Value) (xs : List (List Int)) (hblk : W.heap[g]? = some (.cells cs.toArray t (0, 0))) (hl : xs.length ≤ 9223372036854775807)
    (h : ∀ (j : Nat) (x : List Int), xs[j]? = some x → ∃ A c, cs[j]? = some (Value.slice A x.length c) ∧ x.length ≤ c ∧ Kd.C (Kd.int .u8) W A x.length x) : Kd.C (Kd.slice 5 (Kd.int .u8)) W (some ⟨g, 0, none⟩) xs.length xs := by
  refine ⟨rfl, hl, fun _ => ⟨_, rfl, fun j p hj => ?_⟩⟩
  obtain ⟨A, c, hc, hlc, hC⟩ := h j p hj
  refine ⟨[.slice A p.length c], rfl, ⟨A, c, rfl, hlc, hC⟩, fun i u hu => ?_⟩
  have hi : i = 0 := by
    have := (List.getElem?_eq_some_iff.1 hu).1
    simpa using this
  subst hi
  simp only [List.getElem?_cons_zero, Option.some.injEq] at hu
  subst hu
  rw [show (Kd.slice 5 (Kd.int .u8)).sz = 1 from rfl, Nat.mul_one, Nat.add_zero, Lib.add_plain, Nat.zero_add]
  exact (cell_of_row _ _ _ _ _ _ hblk).trans (by simpa using hc)
/-- Get at a text of which each / is a line's end. -/
theorem got_calls (k : Nat) (xs : List Int) (a1 a2 r1 : Int) (r2 : List Int) (r3 : List (List Int)) (r4 : Int) (h : wit_Get.f k xs a1 a2 = some (r1, r2, r3, r4)) (A : Option Addr) (c : Nat) (hc : xs.length ≤ c) (w : World) (hG : Gl w) (hC : Kd.C (Kd.int .u8) w A xs.length xs) :
    Calls Tryd.prog 12 #[.slice A xs.length c, .int .i64 a1, .int .i64 a2] w fun e w' => ∃ A1 c1 A2 c2, e = .returned (.tuple #[.agg #[.int .i64 r1, .slice A1 r2.length c1, .slice A2 r3.length c2], .int .i64 r4]) ∧ r2.length ≤ c1 ∧ Kd.C (Kd.int .u8) w' A1 r2.length r2 ∧ r3.length ≤ c2 ∧ Kd.C (Kd.slice 5 (Kd.int .u8)) w' A2 r3.length r3 ∧ Below w.heap.size w w' := by
  refine (wit_Get.calls k (fun k_ => k_ < w.heap.size) A c xs a1 a2 r1 r2 r3 r4 w hG (Kd.V_mk hc (Kd.C_F (Kd.heap_int .u8) hC)) h).mono ?_
  rintro e w' ⟨v1, v2, rfl, hR, hS, hb⟩
  obtain ⟨A1, c1, rfl, hc1, hC1⟩ := Kd.R_reads hR
  obtain ⟨A2, c2, rfl, hc2, hC2⟩ := Kd.S_reads hS
  exact ⟨A1, c1, A2, c2, rfl, hc1, hC1, hc2, hC2, hb⟩
theorem text_const (s : ByteArray) (xs : List Int) (hx : (toI s.data.toList).map tx = xs) (hs : s.size ≤ 1000000) (w : World) :
    Calls Tryd.prog 18 #[.string s] w fun e w' => ∃ A c, e = .returned (.slice A xs.length c) ∧ xs.length ≤ c ∧ Kd.C (Kd.int .u8) w' A xs.length xs ∧ Below w.heap.size w w' := by
  subst hx
  exact text_calls s hs w
def tb1 : List Int := [49, 10, 98, 48, 10, 120, 10, 48, 10, 49, 10, 46, 10]
theorem tb1_is : (toI (⟨#[49, 47, 98, 48, 47, 120, 47, 48, 47, 49, 47, 46, 47]⟩ : ByteArray).data.toList).map tx = tb1 := by decide +kernel
theorem got1 : wit_Get.f 12 tb1 1 1 = some (0, [2], [[0], [1]], 0) := by decide +kernel
def tb2 : List Int := [49, 10, 98, 48, 10, 10, 120, 10, 46, 10]
theorem tb2_is : (toI (⟨#[49, 47, 98, 48, 47, 47, 120, 47, 46, 47]⟩ : ByteArray).data.toList).map tx = tb2 := by decide +kernel
theorem got2 : wit_Get.f 12 tb2 0 1 = some (0, [], [[2]], 0) := by decide +kernel
def tb3 : List Int := [48, 10]
theorem tb3_is : (toI (⟨#[48, 47]⟩ : ByteArray).data.toList).map tx = tb3 := by decide +kernel
theorem got3 : wit_Get.f 12 tb3 1 1 = some (0, [], [], 6) := by decide +kernel
def tb4 : List Int := [49, 10, 98, 48, 10, 10, 46, 10]
theorem tb4_is : (toI (⟨#[49, 47, 98, 48, 47, 47, 46, 47]⟩ : ByteArray).data.toList).map tx = tb4 := by decide +kernel
theorem got4 : wit_Get.f 12 tb4 0 1 = some (0, [], [], 5) := by decide +kernel
def tb5 : List Int := [49, 10, 98, 48, 10, 48, 10, 48, 10]
theorem tb5_is : (toI (⟨#[49, 47, 98, 48, 47, 48, 47, 48, 47]⟩ : ByteArray).data.toList).map tx = tb5 := by decide +kernel
theorem got5 : wit_Get.f 12 tb5 1 1 = some (0, [], [], 4) := by decide +kernel
theorem same1 : inquestref03_SameTrace.f 5 0 [2] [[0], [1]] 0 [2] [[0], [1]] = some true := by decide +kernel
theorem same2 : inquestref03_SameTrace.f 5 0 [] [[2]] 0 [] [[2]] = some true := by decide +kernel
set_option maxHeartbeats 6400000 in
set_option maxRecDepth 100000 in
theorem lives_calls (w : World) (hG : Gl w) : Calls Tryd.prog 7 #[] w fun e w' => e = .returned (.bool true) ∧ Below w.heap.size w w' := by
  have hu := Tryd.underlying25
  have HG := Lib.hid hG
  clear hG
  go_enter Tryd.func7, Tryd.ntmps7
  go_wp2_with fail
  refine (text_const ⟨#[49, 47, 98, 48, 47, 120, 47, 48, 47, 49, 47, 46, 47]⟩ tb1 tb1_is (by decide) _).mono ?_
  rintro e y1 ⟨A1, c1, rfl, hc1, hC1, hb1⟩
  have HB1a := Lib.hid hb1
  have HC1 := Lib.hid hC1
  clear hb1 hC1
  go_wp2_with fail
  refine (got_calls 12 tb1 1 1 _ _ _ _ got1 A1 c1 hc1 y1 (Gl.below HB1a.out HG.out) HC1.out).mono ?_
  rintro e x1 ⟨B1, d1, D1, e1, rfl, hi1, hI1, hf1, hF1, hb1⟩
  have HB1b := Lib.hid (below_step HB1a.out hb1)
  have HI1 := Lib.hid hI1
  have HF1 := Lib.hid hF1
  clear hI1 hF1 hb1 HC1
  go_wp2_with fail
  refine (text_const ⟨#[49, 47, 98, 48, 47, 47, 120, 47, 46, 47]⟩ tb2 tb2_is (by decide) _).mono ?_
  rintro e y2 ⟨A2, c2, rfl, hc2, hC2, hb2⟩
  have HB2a := Lib.hid (below_step (below_alloc HB1b.out _) hb2)
  have HX1 := Lib.hid (blk_below (blk_new x1 _) hb2)
  have HI1 := Lib.hid (Kd.C_below (Kd.C_alloc HI1.out _) hb2)
  have HF1 := Lib.hid (Kd.C_below (Kd.C_alloc HF1.out _) hb2)
  have HC2 := Lib.hid hC2
  clear hb2 hC2
  go_wp2_with fail
  refine (got_calls 12 tb2 0 1 _ _ _ _ got2 A2 c2 hc2 y2 (Gl.below HB2a.out HG.out) HC2.out).mono ?_
  rintro e x2 ⟨B2, d2, D2, e2, rfl, hi2, hI2, hf2, hF2, hb2⟩
  have HB2b := Lib.hid (below_step HB2a.out hb2)
  have HX1 := Lib.hid (blk_below HX1.out hb2)
  have HI1 := Lib.hid (Kd.C_below HI1.out hb2)
  have HF1 := Lib.hid (Kd.C_below HF1.out hb2)
  have HI2 := Lib.hid hI2
  have HF2 := Lib.hid hF2
  clear hI2 hF2 hb2 HC2
  go_wp2_with fail
  refine (text_const ⟨#[48, 47]⟩ tb3 tb3_is (by decide) _).mono ?_
  rintro e y3 ⟨A3, c3, rfl, hc3, hC3, hb3⟩
  have HB3a := Lib.hid (below_step (below_alloc HB2b.out _) hb3)
  have HX2 := Lib.hid (blk_below (blk_new x2 _) hb3)
  have HX1 := Lib.hid (blk_below (blk_alloc HX1.out _) hb3)
  have HI1 := Lib.hid (Kd.C_below (Kd.C_alloc HI1.out _) hb3)
  have HF1 := Lib.hid (Kd.C_below (Kd.C_alloc HF1.out _) hb3)
  have HI2 := Lib.hid (Kd.C_below (Kd.C_alloc HI2.out _) hb3)
  have HF2 := Lib.hid (Kd.C_below (Kd.C_alloc HF2.out _) hb3)
  have HC3 := Lib.hid hC3
  clear hb3 hC3
  go_wp2_with fail
  refine (got_calls 12 tb3 1 1 _ _ _ _ got3 A3 c3 hc3 y3 (Gl.below HB3a.out HG.out) HC3.out).mono ?_
  rintro e x3 ⟨B3, d3, D3, e3, rfl, hi3, hI3, hf3, hF3, hb3⟩
  have HB3b := Lib.hid (below_step HB3a.out hb3)
  have HX1 := Lib.hid (blk_below HX1.out hb3)
  have HI1 := Lib.hid (Kd.C_below HI1.out hb3)
  have HF1 := Lib.hid (Kd.C_below HF1.out hb3)
  have HX2 := Lib.hid (blk_below HX2.out hb3)
  have HI2 := Lib.hid (Kd.C_below HI2.out hb3)
  have HF2 := Lib.hid (Kd.C_below HF2.out hb3)
  clear hI3 hF3 hb3 HC3
  go_wp2_with fail
  refine (text_const ⟨#[49, 47, 98, 48, 47, 47, 46, 47]⟩ tb4 tb4_is (by decide) _).mono ?_
  rintro e y4 ⟨A4, c4, rfl, hc4, hC4, hb4⟩
  have HB4a := Lib.hid (below_step (below_alloc HB3b.out _) hb4)
  have HX1 := Lib.hid (blk_below (blk_alloc HX1.out _) hb4)
  have HX2 := Lib.hid (blk_below (blk_alloc HX2.out _) hb4)
  have HI1 := Lib.hid (Kd.C_below (Kd.C_alloc HI1.out _) hb4)
  have HF1 := Lib.hid (Kd.C_below (Kd.C_alloc HF1.out _) hb4)
  have HI2 := Lib.hid (Kd.C_below (Kd.C_alloc HI2.out _) hb4)
  have HF2 := Lib.hid (Kd.C_below (Kd.C_alloc HF2.out _) hb4)
  have HC4 := Lib.hid hC4
  clear hb4 hC4
  go_wp2_with fail
  refine (got_calls 12 tb4 0 1 _ _ _ _ got4 A4 c4 hc4 y4 (Gl.below HB4a.out HG.out) HC4.out).mono ?_
  rintro e x4 ⟨B4, d4, D4, e4, rfl, hi4, hI4, hf4, hF4, hb4⟩
  have HB4b := Lib.hid (below_step HB4a.out hb4)
  have HX1 := Lib.hid (blk_below HX1.out hb4)
  have HI1 := Lib.hid (Kd.C_below HI1.out hb4)
  have HF1 := Lib.hid (Kd.C_below HF1.out hb4)
  have HX2 := Lib.hid (blk_below HX2.out hb4)
  have HI2 := Lib.hid (Kd.C_below HI2.out hb4)
  have HF2 := Lib.hid (Kd.C_below HF2.out hb4)
  clear hI4 hF4 hb4 HC4
  go_wp2_with fail
  refine (text_const ⟨#[49, 47, 98, 48, 47, 48, 47, 48, 47]⟩ tb5 tb5_is (by decide) _).mono ?_
  rintro e y5 ⟨A5, c5, rfl, hc5, hC5, hb5⟩
  have HB5a := Lib.hid (below_step (below_alloc HB4b.out _) hb5)
  have HX1 := Lib.hid (blk_below (blk_alloc HX1.out _) hb5)
  have HX2 := Lib.hid (blk_below (blk_alloc HX2.out _) hb5)
  have HI1 := Lib.hid (Kd.C_below (Kd.C_alloc HI1.out _) hb5)
  have HF1 := Lib.hid (Kd.C_below (Kd.C_alloc HF1.out _) hb5)
  have HI2 := Lib.hid (Kd.C_below (Kd.C_alloc HI2.out _) hb5)
  have HF2 := Lib.hid (Kd.C_below (Kd.C_alloc HF2.out _) hb5)
  have HC5 := Lib.hid hC5
  clear hb5 hC5
  go_wp2_with fail
  refine (got_calls 12 tb5 1 1 _ _ _ _ got5 A5 c5 hc5 y5 (Gl.below HB5a.out HG.out) HC5.out).mono ?_
  rintro e x5 ⟨B5, d5, D5, e5, rfl, hi5, hI5, hf5, hF5, hb5⟩
  have HB5b := Lib.hid (below_step HB5a.out hb5)
  have HX1 := Lib.hid (blk_below HX1.out hb5)
  have HI1 := Lib.hid (Kd.C_below HI1.out hb5)
  have HF1 := Lib.hid (Kd.C_below HF1.out hb5)
  have HX2 := Lib.hid (blk_below HX2.out hb5)
  have HI2 := Lib.hid (Kd.C_below HI2.out hb5)
  have HF2 := Lib.hid (Kd.C_below HF2.out hb5)
  clear hI5 hF5 hb5 HC5
  have HBw := Lib.hid (below_alloc HB5b.out (.cells #[.int .i64 0, .slice B5 0 d5, .slice D5 0 e5] 25))
  have HX1 := Lib.hid (blk_alloc HX1.out (.cells #[.int .i64 0, .slice B5 0 d5, .slice D5 0 e5] 25))
  have HI1 := Lib.hid (Kd.C_alloc HI1.out (.cells #[.int .i64 0, .slice B5 0 d5, .slice D5 0 e5] 25))
  have HF1 := Lib.hid (Kd.C_alloc HF1.out (.cells #[.int .i64 0, .slice B5 0 d5, .slice D5 0 e5] 25))
  have q10 : (x5.alloc (.cells #[.int .i64 0, .slice B5 0 d5, .slice D5 0 e5] 25)).cell? ⟨x1.heap.size, 0, none⟩ = some (.int .i64 0) := (blk_cell HX1.out 0).trans rfl
  have q11 : (x5.alloc (.cells #[.int .i64 0, .slice B5 0 d5, .slice D5 0 e5] 25)).cell? ⟨x1.heap.size, 1, none⟩ = some (.slice B1 1 d1) := (blk_cell HX1.out 1).trans rfl
  have q12 : (x5.alloc (.cells #[.int .i64 0, .slice B5 0 d5, .slice D5 0 e5] 25)).cell? ⟨x1.heap.size, 2, none⟩ = some (.slice D1 2 e1) := (blk_cell HX1.out 2).trans rfl
  have HX2 := Lib.hid (blk_alloc HX2.out (.cells #[.int .i64 0, .slice B5 0 d5, .slice D5 0 e5] 25))
  have HI2 := Lib.hid (Kd.C_alloc HI2.out (.cells #[.int .i64 0, .slice B5 0 d5, .slice D5 0 e5] 25))
  have HF2 := Lib.hid (Kd.C_alloc HF2.out (.cells #[.int .i64 0, .slice B5 0 d5, .slice D5 0 e5] 25))
  go_wp2_with fail
  have hz6 : (x5.alloc (.cells #[.int .i64 0, .slice B5 0 d5, .slice D5 0 e5] 25)).heap.size = x5.heap.size + 1 := World.size_alloc _ _
  have hz7 : ((x5.alloc (.cells #[.int .i64 0, .slice B5 0 d5, .slice D5 0 e5] 25)).alloc (.cells #[.int .u8 2] 5)).heap.size = x5.heap.size + 1 + 1 := by rw [World.size_alloc, World.size_alloc]
  have hz8 : (((x5.alloc (.cells #[.int .i64 0, .slice B5 0 d5, .slice D5 0 e5] 25)).alloc (.cells #[.int .u8 2] 5)).alloc (.cells #[.int .u8 0] 5)).heap.size = x5.heap.size + 1 + 1 + 1 := by rw [World.size_alloc, World.size_alloc, World.size_alloc]
  have hz9 : ((((x5.alloc (.cells #[.int .i64 0, .slice B5 0 d5, .slice D5 0 e5] 25)).alloc (.cells #[.int .u8 2] 5)).alloc (.cells #[.int .u8 0] 5)).alloc (.cells #[.int .u8 1] 5)).heap.size = x5.heap.size + 1 + 1 + 1 + 1 := by rw [World.size_alloc, World.size_alloc, World.size_alloc, World.size_alloc]
  have hC2 : Kd.C (Kd.int .u8) (((((x5.alloc (.cells #[.int .i64 0, .slice B5 0 d5, .slice D5 0 e5] 25)).alloc (.cells #[.int .u8 2] 5)).alloc (.cells #[.int .u8 0] 5)).alloc (.cells #[.int .u8 1] 5)).alloc (.cells #[.slice (some ⟨x5.heap.size + 1 + 1, 0, none⟩) 1 1, .slice (some ⟨x5.heap.size + 1 + 1 + 1, 0, none⟩) 1 1] 22)) (some ⟨x5.heap.size + 1, 0, none⟩) ([2] : List Int).length [2] := by
    have := reads_new (x5.alloc (.cells #[.int .i64 0, .slice B5 0 d5, .slice D5 0 e5] 25)) [2] _ rfl 5 (0, 0) (by decide)
    rw [hz6] at this
    exact Kd.C_alloc (Kd.C_alloc (Kd.C_alloc this _) _) _
  have hC0 : Kd.C (Kd.int .u8) (((((x5.alloc (.cells #[.int .i64 0, .slice B5 0 d5, .slice D5 0 e5] 25)).alloc (.cells #[.int .u8 2] 5)).alloc (.cells #[.int .u8 0] 5)).alloc (.cells #[.int .u8 1] 5)).alloc (.cells #[.slice (some ⟨x5.heap.size + 1 + 1, 0, none⟩) 1 1, .slice (some ⟨x5.heap.size + 1 + 1 + 1, 0, none⟩) 1 1] 22)) (some ⟨x5.heap.size + 1 + 1, 0, none⟩) ([0] : List Int).length [0] := by
    have := reads_new ((x5.alloc (.cells #[.int .i64 0, .slice B5 0 d5, .slice D5 0 e5] 25)).alloc (.cells #[.int .u8 2] 5)) [0] _ rfl 5 (0, 0) (by decide)
    rw [hz7] at this
    exact Kd.C_alloc (Kd.C_alloc this _) _
  have hC1 : Kd.C (Kd.int .u8) (((((x5.alloc (.cells #[.int .i64 0, .slice B5 0 d5, .slice D5 0 e5] 25)).alloc (.cells #[.int .u8 2] 5)).alloc (.cells #[.int .u8 0] 5)).alloc (.cells #[.int .u8 1] 5)).alloc (.cells #[.slice (some ⟨x5.heap.size + 1 + 1, 0, none⟩) 1 1, .slice (some ⟨x5.heap.size + 1 + 1 + 1, 0, none⟩) 1 1] 22)) (some ⟨x5.heap.size + 1 + 1 + 1, 0, none⟩) ([1] : List Int).length [1] := by
    have := reads_new (((x5.alloc (.cells #[.int .i64 0, .slice B5 0 d5, .slice D5 0 e5] 25)).alloc (.cells #[.int .u8 2] 5)).alloc (.cells #[.int .u8 0] 5)) [1] _ rfl 5 (0, 0) (by decide)
    rw [hz8] at this
    exact Kd.C_alloc this _
  have hCr : Kd.C (Kd.slice 5 (Kd.int .u8)) (((((x5.alloc (.cells #[.int .i64 0, .slice B5 0 d5, .slice D5 0 e5] 25)).alloc (.cells #[.int .u8 2] 5)).alloc (.cells #[.int .u8 0] 5)).alloc (.cells #[.int .u8 1] 5)).alloc (.cells #[.slice (some ⟨x5.heap.size + 1 + 1, 0, none⟩) 1 1, .slice (some ⟨x5.heap.size + 1 + 1 + 1, 0, none⟩) 1 1] 22)) (some ⟨x5.heap.size + 1 + 1 + 1 + 1, 0, none⟩) ([[0], [1]] : List (List Int)).length [[0], [1]] := by
    have hbk := blk_new ((((x5.alloc (.cells #[.int .i64 0, .slice B5 0 d5, .slice D5 0 e5] 25)).alloc (.cells #[.int .u8 2] 5)).alloc (.cells #[.int .u8 0] 5)).alloc (.cells #[.int .u8 1] 5)) (.cells #[.slice (some ⟨x5.heap.size + 1 + 1, 0, none⟩) 1 1, .slice (some ⟨x5.heap.size + 1 + 1 + 1, 0, none⟩) 1 1] 22)
    rw [hz9] at hbk
    refine rows_new _ _ 22 [.slice (some ⟨x5.heap.size + 1 + 1, 0, none⟩) 1 1, .slice (some ⟨x5.heap.size + 1 + 1 + 1, 0, none⟩) 1 1] _ hbk (by decide) ?_
    intro j x hx
    match j, hx with
    | 0, hx =>
      obtain rfl : [0] = x := by simpa using hx
      exact ⟨_, _, rfl, by decide, hC0⟩
    | 1, hx =>
      obtain rfl : [1] = x := by simpa using hx
      exact ⟨_, _, rfl, by decide, hC1⟩
    | j + 2, hx => simp at hx
  have HBA : Hid (Below w.heap.size w (((((x5.alloc (.cells #[.int .i64 0, .slice B5 0 d5, .slice D5 0 e5] 25)).alloc (.cells #[.int .u8 2] 5)).alloc (.cells #[.int .u8 0] 5)).alloc (.cells #[.int .u8 1] 5)).alloc (.cells #[.slice (some ⟨x5.heap.size + 1 + 1, 0, none⟩) 1 1, .slice (some ⟨x5.heap.size + 1 + 1 + 1, 0, none⟩) 1 1] 22))) := Lib.hid (below_alloc (below_alloc (below_alloc (below_alloc HBw.out _) _) _) _)
  have HX2A := Lib.hid (blk_alloc (blk_alloc (blk_alloc (blk_alloc HX2.out (.cells #[.int .u8 2] 5)) (.cells #[.int .u8 0] 5)) (.cells #[.int .u8 1] 5)) (.cells #[.slice (some ⟨x5.heap.size + 1 + 1, 0, none⟩) 1 1, .slice (some ⟨x5.heap.size + 1 + 1 + 1, 0, none⟩) 1 1] 22))
  have HI1A := Lib.hid (Kd.C_alloc (Kd.C_alloc (Kd.C_alloc (Kd.C_alloc HI1.out (.cells #[.int .u8 2] 5)) (.cells #[.int .u8 0] 5)) (.cells #[.int .u8 1] 5)) (.cells #[.slice (some ⟨x5.heap.size + 1 + 1, 0, none⟩) 1 1, .slice (some ⟨x5.heap.size + 1 + 1 + 1, 0, none⟩) 1 1] 22))
  have HF1A := Lib.hid (Kd.C_alloc (Kd.C_alloc (Kd.C_alloc (Kd.C_alloc HF1.out (.cells #[.int .u8 2] 5)) (.cells #[.int .u8 0] 5)) (.cells #[.int .u8 1] 5)) (.cells #[.slice (some ⟨x5.heap.size + 1 + 1, 0, none⟩) 1 1, .slice (some ⟨x5.heap.size + 1 + 1 + 1, 0, none⟩) 1 1] 22))
  have HI2A := Lib.hid (Kd.C_alloc (Kd.C_alloc (Kd.C_alloc (Kd.C_alloc HI2.out (.cells #[.int .u8 2] 5)) (.cells #[.int .u8 0] 5)) (.cells #[.int .u8 1] 5)) (.cells #[.slice (some ⟨x5.heap.size + 1 + 1, 0, none⟩) 1 1, .slice (some ⟨x5.heap.size + 1 + 1 + 1, 0, none⟩) 1 1] 22))
  have HF2A := Lib.hid (Kd.C_alloc (Kd.C_alloc (Kd.C_alloc (Kd.C_alloc HF2.out (.cells #[.int .u8 2] 5)) (.cells #[.int .u8 0] 5)) (.cells #[.int .u8 1] 5)) (.cells #[.slice (some ⟨x5.heap.size + 1 + 1, 0, none⟩) 1 1, .slice (some ⟨x5.heap.size + 1 + 1 + 1, 0, none⟩) 1 1] 22))
  refine (inquestref03_SameTrace.calls 5 0 B1 d1 [2] D1 e1 [[0], [1]] 0 (some ⟨x5.heap.size + 1, 0, none⟩) 1 [2] (some ⟨x5.heap.size + 1 + 1 + 1 + 1, 0, none⟩) 2 [[0], [1]] true (((((x5.alloc (.cells #[.int .i64 0, .slice B5 0 d5, .slice D5 0 e5] 25)).alloc (.cells #[.int .u8 2] 5)).alloc (.cells #[.int .u8 0] 5)).alloc (.cells #[.int .u8 1] 5)).alloc (.cells #[.slice (some ⟨x5.heap.size + 1 + 1, 0, none⟩) 1 1, .slice (some ⟨x5.heap.size + 1 + 1 + 1, 0, none⟩) 1 1] 22)) HI1A.out hi1 HF1A.out hf1 hC2 (by decide) hCr (by decide) same1).mono ?_
  rintro e z1 ⟨rfl, hbz⟩
  have HBz := Lib.hid (below_step HBA.out hbz)
  have HX2z := Lib.hid (blk_below HX2A.out hbz)
  have HI2z := Lib.hid (Kd.C_below HI2A.out hbz)
  have HF2z := Lib.hid (Kd.C_below HF2A.out hbz)
  clear hbz hC2 hC0 hC1 hCr hz6 hz7 hz8 hz9 HI1A HF1A HI2A HF2A HX2A HBA q10 q11 q12
  have q20 : z1.cell? ⟨x2.heap.size, 0, none⟩ = some (.int .i64 0) := (blk_cell HX2z.out 0).trans rfl
  have q21 : z1.cell? ⟨x2.heap.size, 1, none⟩ = some (.slice B2 0 d2) := (blk_cell HX2z.out 1).trans rfl
  have q22 : z1.cell? ⟨x2.heap.size, 2, none⟩ = some (.slice D2 1 e2) := (blk_cell HX2z.out 2).trans rfl
  go_wp2_with fail
  have hz1 : (z1.alloc (.cells #[.int .u8 2] 5)).heap.size = z1.heap.size + 1 := World.size_alloc _ _
  have hD2 : Kd.C (Kd.int .u8) ((z1.alloc (.cells #[.int .u8 2] 5)).alloc (.cells #[.slice (some ⟨z1.heap.size, 0, none⟩) 1 1] 22)) (some ⟨z1.heap.size, 0, none⟩) ([2] : List Int).length [2] := Kd.C_alloc (reads_new z1 [2] _ rfl 5 (0, 0) (by decide)) _
  have hDr : Kd.C (Kd.slice 5 (Kd.int .u8)) ((z1.alloc (.cells #[.int .u8 2] 5)).alloc (.cells #[.slice (some ⟨z1.heap.size, 0, none⟩) 1 1] 22)) (some ⟨z1.heap.size + 1, 0, none⟩) ([[2]] : List (List Int)).length [[2]] := by
    have hbk := blk_new (z1.alloc (.cells #[.int .u8 2] 5)) (.cells #[.slice (some ⟨z1.heap.size, 0, none⟩) 1 1] 22)
    rw [hz1] at hbk
    refine rows_new _ _ 22 [.slice (some ⟨z1.heap.size, 0, none⟩) 1 1] _ hbk (by decide) ?_
    intro j x hx
    match j, hx with
    | 0, hx =>
      obtain rfl : [2] = x := by simpa using hx
      exact ⟨_, _, rfl, by decide, hD2⟩
    | j + 1, hx => simp at hx
  refine (inquestref03_SameTrace.calls 5 0 B2 d2 [] D2 e2 [[2]] 0 none 0 [] (some ⟨z1.heap.size + 1, 0, none⟩) 1 [[2]] true ((z1.alloc (.cells #[.int .u8 2] 5)).alloc (.cells #[.slice (some ⟨z1.heap.size, 0, none⟩) 1 1] 22)) (Kd.C_alloc (Kd.C_alloc HI2z.out _) _) hi2 (Kd.C_alloc (Kd.C_alloc HF2z.out _) _) hf2 (Kd.C_nil _ _) (by decide) hDr (by decide) same2).mono ?_
  rintro e z2 ⟨rfl, hbz2⟩
  have HBf := Lib.hid (below_step (below_alloc (below_alloc HBz.out _) _) hbz2)
  clear hbz2 hD2 hDr hz1
  go_wp2_with fail
  go_ret
  exact ⟨rfl, HBf.out⟩
def inquestlaw05_lives.f : Option Bool := some true
theorem inquestlaw05_lives.calls (r : Bool) (w : World) (hgl : Gl w) (h : inquestlaw05_lives.f = some r) :
    Calls Tryd.prog 7 #[] w fun e w' => e = .returned (.bool r) ∧ Below w.heap.size w w' := by
  obtain rfl := Option.some.inj h
  exact lives_calls w hgl
end Go.Proofs.YtfajplhkbpobiaaDoor.Z
