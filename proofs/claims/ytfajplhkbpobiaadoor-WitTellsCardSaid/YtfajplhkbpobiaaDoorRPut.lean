/- inquestref05.Put, walked: it answers what wit.Put does. -/
import Derived.Test.YtfajplhkbpobiaaDoorRWrite
import Derived.Test.YtfajplhkbpobiaaDoorPut
import Derived.Deep.RegionLaw
import Derived.Deep.RegionHeld3
import Derived.Deep.CutRange
namespace Go.Proofs.YtfajplhkbpobiaaDoor.Z
set_option linter.unusedVariables false
set_option linter.unusedSimpArgs false
open Go.RowKit Go.Proofs.YtfajplhkbpobiaaDoorW.PrintWords Go.Proofs.YtfajplhkbpobiaaDoorW.PrintWords.Kd
/-- A row of rows, at one place. -/
theorem row_at {w : World} {ad : Addr} {fr : List (List Int)} (h : Kd.C (Kd.slice 5 (Kd.int .u8)) w (some ad) fr.length fr) (k : Nat) (hk : k < fr.length) : ∃ A c, w.cell? (ad.add k) = some (.slice A (fr[k]).length c) ∧ (fr[k]).length ≤ c ∧ Kd.C (Kd.int .u8) w A (fr[k]).length fr[k] := by
  obtain ⟨ad', he, hx⟩ := h.2.2 (by omega)
  injection he with he
  subst he
  obtain ⟨cs, _, ⟨A, c, rfl, hl, hC⟩, h3⟩ := hx k _ (List.getElem?_eq_getElem hk)
  refine ⟨A, c, ?_, hl, hC⟩
  have := h3 0 _ rfl
  simpa [Kd.slice] using this
theorem J_lit (w : World) (x : Int) : J (w.alloc (.cells #[.int .u8 x] 5)) w.heap.size (.slice (some ⟨w.heap.size, 0, none⟩) 1 1) [x] :=
  ⟨w.heap.size, #[.int .u8 x], (0, 0), rfl, Nat.le_refl _, blk_new w _, .inl rfl, Nat.le_refl _, fun j hj => by
    obtain rfl : j = 0 := by simpa using hj
    rfl⟩
theorem C_low {w : World} {A : Option Addr} {x : List Int} (h : Kd.C (Kd.int .u8) w A x.length x) : ∀ ad, A = some ad → 0 < x.length → ad.block < w.heap.size := by
  rintro ad rfl hn
  exact Kd.C_lt h hn (by decide)
def putB (bad : Int) (init : List Int) (f : List (List Int)) : List Int := [49, 10, 98] ++ toI (Lib.itoa bad) ++ [10] ++ (init :: f).flatMap rowB
theorem putB_snoc (bad : Int) (init : List Int) (f : List (List Int)) (x : List Int) : putB bad init (f ++ [x]) = putB bad init f ++ rowB x := by
  unfold putB
  simp
theorem putB_zero (bad : Int) (init : List Int) : putB bad init [] = [49, 10, 98] ++ toI (Lib.itoa bad) ++ [10] ++ rowB init := by
  unfold putB
  simp
def sumL (fr : List (List Int)) : Nat := (fr.map List.length).sum
theorem putB_len (n : Nat) (hn : n < 1024) (init : List Int) (f : List (List Int)) : (putB n init f).length ≤ 40 + init.length + sumL f + f.length := by
  have h1 := dec_len_le n (by omega)
  have h2 : (toI (Lib.itoa (n : Int))).length ≤ 21 := by
    unfold toI
    rw [List.length_map, itoa_nat]
    exact h1
  have h3 : ((init :: f).flatMap rowB).length = init.length + 1 + sumL f + f.length := by
    have : ∀ g : List (List Int), (g.flatMap rowB).length = sumL g + g.length := by
      intro g
      induction g with
      | nil => rfl
      | cons x t ih =>
        rw [List.flatMap_cons, List.length_append, ih]
        unfold sumL rowB
        simp
        omega
    rw [List.flatMap_cons, List.length_append, this]
    unfold rowB
    simp
    omega
  unfold putB
  simp only [List.length_append, List.length_cons, List.length_nil, h3]
  omega
theorem sum_take (fr : List (List Int)) (k : Nat) : sumL (fr.take k) ≤ sumL fr := by
  unfold sumL
  have h : (fr.map List.length).sum = ((fr.take k).map List.length).sum + ((fr.drop k).map List.length).sum := by
    conv => lhs; rw [← List.take_append_drop k fr]
    rw [List.map_append, List.sum_append]
  omega
theorem mem_sum (fr : List (List Int)) (x : List Int) (h : x ∈ fr) : x.length ≤ sumL fr := by
  induction fr with
  | nil => cases h
  | cons y t ih =>
    have : sumL (y :: t) = y.length + sumL t := rfl
    rcases List.mem_cons.1 h with rfl | h
    · omega
    · have := ih h
      omega
/-- In the loop. -/
def PutR (W0 wr : World) (bad : Int) (init : List Int) (fr : List (List Int)) (first : Nat) (v ok : Value) (k : Nat) : Prop :=
  Below W0.heap.size W0 wr ∧ ((ok = .bool true ∧ J wr W0.heap.size v (putB bad init (fr.take k)) ∧ ∀ j x, j ≤ k → (init :: fr)[j]? = some x → rowOkB x = true ∧ (0 < j → x.length = first)) ∨ (ok = .bool false ∧ fitB init fr = false ∧ ∃ A c n, v = .slice A n c))
set_option maxHeartbeats 6400000 in
set_option maxRecDepth 100000 in
theorem rput_go (n : Nat) (init : List Int) (fr : List (List Int)) (hn : n < 1024) (h3 : fr.length ≠ 0) (h4 : fr.length ≤ 256) (hs : init.length + sumL fr ≤ 1000000) (hli : ∀ x ∈ init :: fr, ∀ c ∈ x, 0 ≤ c ∧ c < 256) (A1 : Option Addr) (c1 : Nat) (ad : Addr) (c2 : Nat) (w : World)
    (hr1 : Kd.C (Kd.int .u8) w A1 init.length init) (hc1 : init.length ≤ c1) (hr2 : Kd.C (Kd.slice 5 (Kd.int .u8)) w (some ad) fr.length fr) (hc2 : fr.length ≤ c2) :
    Calls Tryd.prog 10 #[.agg #[.int .i64 (n : Int), .slice A1 init.length c1, .slice (some ad) fr.length c2]] w fun e w' => ∃ A c, e = .returned (.tuple #[.slice A (putF n init fr).1.length c, .int .i64 (putF n init fr).2]) ∧ (putF n init fr).1.length ≤ c ∧ Kd.C (Kd.int .u8) w' A (putF n init fr).1.length (putF n init fr).1 ∧ Below w.heap.size w w' := by
  have hu := Tryd.underlying25
  obtain ⟨W0, hW0⟩ : ∃ W0, W0 = w.alloc (.cells #[.int .i64 (n : Int), .slice A1 init.length c1, .slice (some ad) fr.length c2] 25) := ⟨_, rfl⟩
  have HW0 := Lib.hid hW0
  have hsz : W0.heap.size = w.heap.size + 1 := by rw [hW0, World.size_alloc]
  have HSZ := Lib.hid hsz
  have HBW : Hid (Below w.heap.size w W0) := Lib.hid (by rw [hW0]; exact below_alloc (Below.refl _ _) _)
  have HBX : Hid (W0.heap[w.heap.size]? = some (.cells #[.int .i64 (n : Int), .slice A1 init.length c1, .slice (some ad) fr.length c2] 25)) := Lib.hid (by rw [hW0]; exact blk_new w _)
  have HF : Hid (putF n init fr = if fitB init fr then (putL n init fr, 0) else ([], 2)) := Lib.hid (by unfold putF; rw [if_neg (by omega)])
  obtain ⟨Af, cf, hf0, hf1, hf2⟩ := row_at hr2 0 (by omega)
  clear hf1 hf2
  have hfh : (fr[0]'(by omega)).length = (fr.headD []).length := by cases fr with
    | nil => exact absurd rfl h3
    | cons x t => rfl
  rw [hfh, show ad.add 0 = ad from by cases ad; rfl] at hf0
  have HFF : Hid (∀ W, Below W0.heap.size W0 W → W.cell? ad = some (.slice Af (fr.headD []).length cf)) := Lib.hid (fun W hb => ((below_step HBW.out hb).cell (World.block_lt_of_cell? w _ hf0)).trans hf0)
  have HRA := Lib.hid (fun k hk => row_at hr2 k hk)
  have HR1 := Lib.hid hr1
  have HLI := Lib.hid hli
  have HS := Lib.hid hs
  have HN3 := Lib.hid h3
  have hb1 : ¬ (n : Int) < 0 := by omega
  have hb2 : ¬ 1024 ≤ (n : Int) := by omega
  have hb3 : ¬ (fr.length : Int) < 1 := by omega
  have hb4 : ¬ 256 < (fr.length : Int) := by omega
  have hw1 : IntKind.u32.wrap (n : Int) = (n : Int) := by rw [IntKind.wrap_u32]; omega
  obtain ⟨first, hfst⟩ : ∃ f, f = (fr.headD []).length := ⟨_, rfl⟩
  rw [← hfst] at HFF
  have HFE := Lib.hid hfst
  have kc := fun (C : Array Value) (n' c : Nat) => Joins.run_convert_bytes_const_at (P := Tryd.prog) (w.alloc (.cells #[.int .i64 (n : Int), .slice A1 init.length c1, .slice (some ad) fr.length c2] 25)) 22 5 C n' c (w.heap.size + 1) (by rw [World.size_alloc]) Tryd.underlying22 Tryd.underlying5
  have HN2 : Hid (∀ j, j < ([10, 98] : List Int).length → ((W0.alloc (.cells #[.int .u8 49] 5 (1, 2))).alloc (.cells #[.int .u8 10, .int .u8 98] 5)).cell? ((⟨w.heap.size + 1 + 1, 0, none⟩ : Addr).add j) = some (.int .u8 (([10, 98] : List Int).getD j 0))) := Lib.hid (by
    have h := news_two (W0.alloc (.cells #[.int .u8 49] 5 (1, 2))) 10 98 5
    rw [World.size_alloc, hsz] at h
    exact h)
  have HJ2 : Hid (J ((W0.alloc (.cells #[.int .u8 49] 5 (1, 2))).alloc (.cells #[.int .u8 10, .int .u8 98] 5)) W0.heap.size (.slice (some ⟨w.heap.size + 1, 0, none⟩) 1 1) [49]) := Lib.hid (by
    have h : J (W0.alloc (.cells #[.int .u8 49] 5 (1, 2))) W0.heap.size (.slice (some ⟨w.heap.size + 1, 0, none⟩) 1 1) [49] := ⟨w.heap.size + 1, #[.int .u8 49], (1, 2), rfl, by omega, by rw [← hsz]; exact blk_new _ _, .inr rfl, Nat.le_refl _, fun j hj => by
      obtain rfl : j = 0 := by simpa using hj
      rfl⟩
    exact h.keep (fun k hk => Below.heap_alloc _ _ k hk))
  have HB2 := Lib.hid (below_alloc (below_alloc (Below.refl W0.heap.size W0) (.cells #[.int .u8 49] 5 (1, 2))) (.cells #[.int .u8 10, .int .u8 98] 5))
  rw [hW0] at HN2 HJ2 HB2
  clear hr1 hr2 hli hs hf0 hfh hfst h3 hW0 hsz
  go_enter Tryd.func10, Tryd.ntmps10
  go_wp2_with (at_builtin; refine J_append (w0 := _) (B := _) (xs := [49]) HJ2.out HB2.out HB2.out.size [10, 98] (Nat.zero_lt_succ _) _ 2 2 rfl HN2.out (by decide) rfl _ _ rfl rfl rfl ?_)
  rw [← HW0.out]
  intro v3 w3 hJ3 hB3
  rw [← HSZ.out] at hJ3 hB3
  have HX3 := Lib.hid (blk_below HBX.out hB3)
  have HJ3 := Lib.hid (show J w3 W0.heap.size v3 [49, 10, 98] from hJ3)
  have HB3 := Lib.hid hB3
  clear hJ3 hB3 HN2 HJ2 HB2 kc
  obtain ⟨A3, c3, hv3⟩ := J.slice HJ3.out
  subst hv3
  have HQ : Hid (∀ W, Below W0.heap.size W0 W → W.cell? ⟨w.heap.size, 0, none⟩ = some (.int .i64 (n : Int)) ∧ W.cell? ⟨w.heap.size, 1, none⟩ = some (.slice A1 init.length c1)) := Lib.hid (fun W hb => ⟨(blk_cell (blk_below HBX.out hb) 0).trans rfl, (blk_cell (blk_below HBX.out hb) 1).trans rfl⟩)
  have HWR : Hid (∀ W ad1, Below w3.heap.size w3 W → W.cell? ad1 = some (.int .u32 (n : Int)) → Calls Tryd.prog 22 #[.slice A3 3 c3, .slice (some ad1) 1 1] W fun e w' => ∃ v, e = .returned v ∧ J w' W.heap.size v (rwriteF [49, 10, 98] n) ∧ Below W.heap.size W w') := Lib.hid (fun W ad1 hb h1 => by
    obtain ⟨_, hc3, hC3⟩ := J.reads HJ3.out (by decide)
    exact rwrite_calls [49, 10, 98] n (by omega) (by decide) (by decide) A3 c3 ad1 1 W (Kd.C_below hC3 hb) hc3 h1)
  have HRO : Hid (∀ W v, Below W0.heap.size W0 W → J W W0.heap.size v (rwriteF [49, 10, 98] n) → Calls Tryd.prog 21 #[v, .slice A1 init.length c1] W fun e w' => ∃ v1, e = .returned (.tuple #[v1, .bool (rowF init).2]) ∧ ((rowF init).2 = true → J w' W0.heap.size v1 (rwriteF [49, 10, 98] n ++ (rowF init).1)) ∧ (∃ A c n, v1 = .slice A n c) ∧ Below W0.heap.size W w') := Lib.hid (fun W v hb hj =>
    rrow_calls (rwriteF [49, 10, 98] n) init (by
      have h1 := dec_len_le n (by omega)
      have h2 : (toI (Lib.itoa (n : Int))).length ≤ 21 := by
        unfold toI
        rw [List.length_map, itoa_nat]
        exact h1
      have := HS.out
      unfold rwriteF
      simp only [List.length_append, List.length_cons, List.length_nil]
      omega) (HLI.out init (by simp)) v A1 c1 W0.heap.size W hb.size hj (Kd.C_below HR1.out (below_step HBW.out hb)) hc1 (fun a h0 h1 => Nat.lt_of_lt_of_le (C_low HR1.out a h0 h1) HBW.out.size))
  go_upto_region 4 with fail
  go_cut [4, 5] from 31 to 42 (fun v4 v5 wx => PutR W0 wx n init fr first v4 v5 0)
  case first =>
    go_region_held3 (fun W => W.cell? ⟨w.heap.size, 0, none⟩ = some (.int .i64 (n : Int)) ∧ W.cell? ⟨w.heap.size, 1, none⟩ = some (.slice A1 init.length c1))
      (exact HQ.out _ (by repeat (first | assumption | exact HB3.out | refine below_drew1 ?_ | refine below_alloc ?_ _)))
      (first
        | (go_at_call 22; refine (HWR.out _ _ (below_alloc (below_drew1 (Below.refl _ _)) _) ((blk_cell (blk_new _ _) 0).trans rfl)).mono ?_; rintro e w4 ⟨v4, rfl, hJ4, hb4⟩; have hb4w : Below w3.heap.size w3 w4 := below_step (below_alloc (below_drew1 (Below.refl _ _)) _) hb4; have hb4W : Below W0.heap.size W0 w4 := below_step HB3.out hb4w)
        | (go_at_call 21; refine (HRO.out _ _ (below_step HB3.out hb4w) (hJ4.lower (Nat.le_trans HB3.out.size (below_alloc (below_drew1 (Below.refl _ _)) _).size))).mono ?_; rintro e w5 ⟨v5, rfl, hJ5, hv5, hb5⟩; have hb5W : Below W0.heap.size W0 w5 := hb4W.trans hb5))
    all_goals
      go_wp2_with fail
      go_meet
      obtain ⟨hr2, hr1⟩ := rowF_ok init
      refine ⟨hb5W, ?_⟩
      cases hok : rowOkB init
      · rw [hr2, hok]
        exact .inr ⟨rfl, fit_not (j := 0) (x := init) rfl (.inl hok), hv5⟩
      · rw [hr2, hok]
        refine .inl ⟨rfl, ?_, fun j x hj hx => ?_⟩
        · have := hJ5 (by rw [hr2, hok])
          rw [hr1 hok] at this
          rw [List.take_zero, putB_zero]
          exact this
        · obtain rfl : j = 0 := by omega
          obtain rfl : init = x := by simpa using hx
          exact ⟨hok, fun h => absurd h (by omega)⟩
  case rest =>
  have HP0 := Lib.hid hcut
  clear hcut HQ HWR HRO HX3 HJ3 HB3
  have HP2 : Hid (∀ W, Below W0.heap.size W0 W → W.cell? ⟨w.heap.size, 2, none⟩ = some (.slice (some ad) fr.length c2)) := Lib.hid (fun W hb => (blk_cell (blk_below HBX.out hb) 2).trans rfl)
  go_wp2_with fail
  go_loopw [4, 5, 6] (fun v ok i wr => ∃ (k : Nat), k ≤ fr.length ∧ i = .int .i64 (k : Int) ∧ Hid (PutR W0 wr n init fr first v ok k)) (fun _ _ i _ => fr.length - (intOf i).toNat)
  case atStart => exact ⟨0, Nat.zero_le _, rfl, HP0⟩
  case round =>
    clear HP0
    obtain ⟨k, hk, rfl, HP⟩ := hrel
    obtain ⟨hB, hP⟩ := HP.out
    have HB := Lib.hid hB
    have p2 := HP2.out _ hB
    clear hB HP
    rcases hP with ⟨rfl, hJ, hg⟩ | ⟨rfl, hfit, A, c, m, rfl⟩
    · have HJ := Lib.hid hJ
      have HG := Lib.hid hg
      obtain ⟨Av, cv, hvs⟩ := J.slice hJ
      subst hvs
      clear hJ hg
      by_cases hlt : k < fr.length
      · have hlt' : (k : Int) < (fr.length : Int) := by omega
        have hfp : (0 : Int) < (fr.length : Int) := by omega
        have hfn : 0 < fr.length := by omega
        obtain ⟨A, c, hca, hlc, hC⟩ := HRA.out k hlt
        have HCA : Hid (∀ W, Below W0.heap.size W0 W → W.cell? (ad.add k) = some (.slice A (fr[k]).length c)) := Lib.hid (fun W hb => ((below_step HBW.out hb).cell (World.block_lt_of_cell? w _ hca)).trans hca)
        have HXK : Hid ((init :: fr)[k + 1]? = some fr[k]) := Lib.hid (by rw [List.getElem?_cons_succ, List.getElem?_eq_getElem hlt])
        have HTK : Hid (putB n init (fr.take (k + 1)) = putB n init (fr.take k) ++ rowB fr[k]) := Lib.hid (by rw [List.take_succ_eq_append_getElem hlt, putB_snoc])
        have HPL : Hid ((putB n init (fr.take k)).length ≤ 10000000) := Lib.hid (by
          have h1 := putB_len n hn init (fr.take k)
          have h2 := sum_take fr k
          have := HS.out
          rw [List.length_take] at h1
          omega)
        have HXL : Hid ((fr[k]).length ≤ 1000000) := Lib.hid (by
          have := mem_sum fr _ (List.getElem_mem hlt)
          have := HS.out
          omega)
        have HXB := Lib.hid (HLI.out fr[k] (List.mem_cons_of_mem _ (List.getElem_mem hlt)))
        have HCK := Lib.hid hC
        clear hca hC
        generalize fr[k] = x at *
        have HRK : Hid (∀ W, Below W0.heap.size W0 W → J W W0.heap.size (.slice Av (putB n init (fr.take k)).length cv) (putB n init (fr.take k)) → Calls Tryd.prog 21 #[.slice Av (putB n init (fr.take k)).length cv, .slice A x.length c] W fun e w' => ∃ v1, e = .returned (.tuple #[v1, .bool (rowF x).2]) ∧ ((rowF x).2 = true → J w' W0.heap.size v1 (putB n init (fr.take k) ++ (rowF x).1)) ∧ (∃ A c n, v1 = .slice A n c) ∧ Below W0.heap.size W w') := Lib.hid (fun W hb hj =>
          rrow_calls (putB n init (fr.take k)) x (by have := HPL.out; have := HXL.out; omega) HXB.out _ A c W0.heap.size W hb.size hj (Kd.C_below HCK.out (below_step HBW.out hb)) hlc (fun a h0 h1 => Nat.lt_of_lt_of_le (C_low HCK.out a h0 h1) HBW.out.size))
        generalize hpb : putB n init (fr.take k) = pb at *
        clear hpb
        have HQ8 : Hid (∀ W, Below W0.heap.size W0 W → W.cell? ⟨w.heap.size, 2, none⟩ = some (.slice (some ad) fr.length c2) ∧ W.cell? (ad.add k) = some (.slice A x.length c) ∧ W.cell? ad = some (.slice Af first cf)) := Lib.hid (fun W hb => ⟨HP2.out W hb, HCA.out W hb, HFF.out W hb⟩)
        go_upto_region 8 with fail
        clear p2
        go_cut [5] from 53 to 64 (fun v5 wx => v5 = .bool (decide (x.length = first)) ∧ Below W0.heap.size W0 wx ∧ J wx W0.heap.size (.slice Av pb.length cv) pb)
        case first =>
          go_region_held3 (fun W => W.cell? ⟨w.heap.size, 2, none⟩ = some (.slice (some ad) fr.length c2) ∧ W.cell? (ad.add k) = some (.slice A x.length c) ∧ W.cell? ad = some (.slice Af first cf))
            (exact HQ8.out _ (by repeat (first | assumption | exact HB.out | refine below_drew1 ?_)))
            (fail)
          all_goals
            go_wp2_with fail
            go_meet
            refine ⟨?_, below_drew1 HB.out, HJ.out.keep (fun _ _ => rfl)⟩
            simp
            rw [Bool.eq_iff_iff]
            simp
            omega
        case rest =>
        obtain ⟨rfl, hB9, hJ9⟩ := hcut
        have HB9 := Lib.hid hB9
        have HJ9 := Lib.hid hJ9
        have p9 := HP2.out _ hB9
        have x9 := HCA.out _ hB9
        clear hB9 hJ9 HB HJ HQ8
        by_cases hle : x.length = first
        · have hld : decide (x.length = first) = true := decide_eq_true hle
          rw [hld]
          have HLE := Lib.hid hle
          clear hle hld
          go_wp2_with fail
          refine (HRK.out _ HB9.out HJ9.out).mono ?_
          rintro e w5 ⟨v5, rfl, hJ5, ⟨A5, c5, m5, rfl⟩, hb5⟩
          have HJ5 := Lib.hid hJ5
          have HB5 := Lib.hid (HB9.out.trans hb5)
          clear hJ5 hb5 p9 x9
          obtain ⟨hr2, hr1⟩ := rowF_ok x
          cases hok : rowOkB x
          · have hrf : (rowF x).2 = false := by rw [hr2, hok]
            rw [hrf]
            have HFI := Lib.hid (fit_not HXK.out (.inl hok))
            clear hr2 hr1 hrf hok
            go_wp2_with fail
            go_roundw
            case rel =>
              repeat apply Exists.intro
              exact ⟨⟨k + 1, hlt, by go_num, Lib.hid ⟨HB5.out, .inr ⟨rfl, HFI.out, _, _, _, rfl⟩⟩⟩, rfl⟩
            case measure =>
              simp [intOf]
              omega
          · have hrf : (rowF x).2 = true := by rw [hr2, hok]
            have HJ6 : Hid (J w5 W0.heap.size (.slice A5 m5 c5) (putB n init (fr.take (k + 1)))) := Lib.hid (by
              rw [HTK.out, ← hr1 hok]
              exact HJ5.out hrf)
            have HG6 : Hid (∀ j y, j ≤ k + 1 → (init :: fr)[j]? = some y → rowOkB y = true ∧ (0 < j → y.length = first)) := Lib.hid (fun j y hj hy => by
              rcases Nat.lt_or_eq_of_le hj with h | rfl
              · exact HG.out j y (by omega) hy
              · rw [HXK.out] at hy
                injection hy with hy
                subst hy
                exact ⟨hok, fun _ => HLE.out⟩)
            rw [hrf]
            clear hr2 hr1 hrf hok
            go_wp2_with fail
            go_roundw
            case rel =>
              repeat apply Exists.intro
              exact ⟨⟨k + 1, hlt, by go_num, Lib.hid ⟨HB5.out, .inl ⟨rfl, HJ6.out, HG6.out⟩⟩⟩, rfl⟩
            case measure =>
              simp [intOf]
              omega
        · have hld : decide (x.length = first) = false := decide_eq_false hle
          rw [hld]
          have HFI := Lib.hid (fit_not (init := init) (fr := fr) HXK.out (.inr ⟨Nat.zero_lt_succ k, by rw [← HFE.out]; exact hle⟩))
          clear hle hld
          go_wp2_with fail
          go_roundw
          case rel => exact ⟨k + 1, hlt, by go_num, Lib.hid ⟨HB9.out, .inr ⟨rfl, HFI.out, _, _, _, rfl⟩⟩⟩
          case measure =>
            simp [intOf]
            omega
      · obtain rfl : k = fr.length := by omega
        rw [List.take_length] at HJ
        have HF2 : Hid (putF n init fr = (putB n init fr ++ [46, 10], 0)) := Lib.hid (by
          rw [HF.out, fit_of (init := init) (fr := fr) (fun j x hx => by
            have hjl := (List.getElem?_eq_some_iff.1 hx).1
            simp at hjl
            have := HG.out j x (by omega) hx
            rw [HFE.out] at this
            exact this)]
          rfl)
        have HPL : Hid ((putB n init fr).length ≤ 10000000) := Lib.hid (by
          have h1 := putB_len n hn init fr
          have := HS.out
          omega)
        simp only [List.take_length]
        generalize putB n init fr = pb at *
        go_wp2_with (at_builtin; refine J_append (w0 := W0) (B := W0.heap.size) (xs := pb) (HJ.out.keep (fun k hk => Below.heap_alloc _ _ k hk)) (below_alloc HB.out _) (below_alloc HB.out _).size [46, 10] (Nat.zero_lt_succ _) _ 2 2 rfl (news_two _ _ _ _) (by have := HPL.out; show pb.length + 2 ≤ _; omega) rfl _ _ rfl rfl rfl ?_)
        intro v9 w9 hJ9 hB9
        have HJ9 := Lib.hid hJ9
        have HB9 := Lib.hid (below_step HBW.out hB9)
        obtain ⟨A9, c9, hv9⟩ := J.slice hJ9
        subst hv9
        clear hJ9 hB9
        go_wp2_with fail
        go_ret2
        rw [HF2.out]
        obtain ⟨_, h1, h2⟩ := J.reads HJ9.out (by rw [List.length_append]; have := HPL.out; show pb.length + 2 ≤ _; omega)
        exact ⟨_, _, rfl, h1, h2, HB9.out⟩
    · have HF2 : Hid (putF n init fr = ([], 2)) := Lib.hid (by rw [HF.out, hfit]; rfl)
      clear hfit
      by_cases hlt : k < fr.length
      all_goals
        go_wp2_with fail
        go_ret2
        rw [HF2.out]
        exact ⟨none, 0, rfl, Nat.le_refl _, Kd.C_nil _ _, below_step HBW.out HB.out⟩
set_option maxHeartbeats 6400000 in
set_option maxRecDepth 100000 in
theorem rput_calls (bad : Int) (init : List Int) (fr : List (List Int)) (hs : init.length + sumL fr ≤ 1000000) (hli : ∀ x ∈ init :: fr, ∀ c ∈ x, 0 ≤ c ∧ c < 256) (A1 : Option Addr) (c1 : Nat) (A2 : Option Addr) (c2 : Nat) (w : World)
    (hr1 : Kd.C (Kd.int .u8) w A1 init.length init) (hc1 : init.length ≤ c1) (hr2 : Kd.C (Kd.slice 5 (Kd.int .u8)) w A2 fr.length fr) (hc2 : fr.length ≤ c2) :
    Calls Tryd.prog 10 #[.agg #[.int .i64 bad, .slice A1 init.length c1, .slice A2 fr.length c2]] w fun e w' => ∃ A c, e = .returned (.tuple #[.slice A (putF bad init fr).1.length c, .int .i64 (putF bad init fr).2]) ∧ (putF bad init fr).1.length ≤ c ∧ Kd.C (Kd.int .u8) w' A (putF bad init fr).1.length (putF bad init fr).1 ∧ Below w.heap.size w w' := by
  by_cases h : bad < 0 ∨ 1024 ≤ bad ∨ fr.length = 0 ∨ 256 < fr.length
  · have HF : Hid (putF bad init fr = ([], 2)) := Lib.hid (by unfold putF; rw [if_pos h])
    have HB := Lib.hid ((Below.refl w.heap.size w).alloc (Nat.le_refl _) (.cells #[.int .i64 bad, .slice A1 init.length c1, .slice A2 fr.length c2] 25))
    have hu := Tryd.underlying25
    clear hr1 hr2 hs hli
    have fin : ∀ w' : World, Below w.heap.size w w' → ∃ A c, Ending.returned (.tuple #[.slice none 0 0, .int .i64 2]) = .returned (.tuple #[.slice A (putF bad init fr).1.length c, .int .i64 (putF bad init fr).2]) ∧ (putF bad init fr).1.length ≤ c ∧ Kd.C (Kd.int .u8) w' A (putF bad init fr).1.length (putF bad init fr).1 ∧ Below w.heap.size w w' := fun w' hb => by
      rw [HF.out]
      exact ⟨none, 0, rfl, Nat.le_refl _, Kd.C_nil _ _, hb⟩
    have FIN := Lib.hid fin
    clear fin HF
    by_cases h1 : bad < 0
    · clear h
      go_enter Tryd.func10, Tryd.ntmps10
      go_wp2_with fail
      go_ret2
      exact FIN.out _ HB.out
    · by_cases h2 : 1024 ≤ bad
      · clear h
        go_enter Tryd.func10, Tryd.ntmps10
        go_wp2_with fail
        go_ret2
        exact FIN.out _ HB.out
      · by_cases h3 : (fr.length : Int) < 1
        · clear h
          go_enter Tryd.func10, Tryd.ntmps10
          go_wp2_with fail
          go_ret2
          exact FIN.out _ HB.out
        · have h4 : 256 < (fr.length : Int) := by omega
          clear h
          go_enter Tryd.func10, Tryd.ntmps10
          go_wp2_with fail
          go_ret2
          exact FIN.out _ HB.out
  · obtain ⟨n, rfl⟩ : ∃ n : Nat, bad = (n : Int) := ⟨bad.toNat, by omega⟩
    obtain ⟨ad, rfl, _⟩ := hr2.2.2 (by omega)
    exact rput_go n init fr (by omega) (by omega) (by omega) hs hli A1 c1 ad c2 w hr1 hc1 hr2 hc2
end Go.Proofs.YtfajplhkbpobiaaDoor.Z
