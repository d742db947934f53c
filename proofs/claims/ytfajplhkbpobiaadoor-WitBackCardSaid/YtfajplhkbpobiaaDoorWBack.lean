/- inquestlaw05.WitBack, walked: it answers true. -/
import Derived.Test.YtfajplhkbpobiaaDoorPWit
import Derived.Test.YtfajplhkbpobiaaDoorApp
import Derived.Deep.RegionLaw
import Derived.Deep.RegionHeld3
import Derived.Deep.CutRange
namespace Go.Proofs.YtfajplhkbpobiaaDoor.Z
set_option linter.unusedVariables false
set_option linter.unusedSimpArgs false
open Go.RowKit Go.Proofs.YtfajplhkbpobiaaDoorW.PrintWords Go.Proofs.YtfajplhkbpobiaaDoorW.PrintWords.Kd
theorem putF_cases (bad : Int) (init : List Int) (fr : List (List Int)) : putF bad init fr = ([], 2) ∨ (putF bad init fr = (putL bad init fr, 0) ∧ (0 ≤ bad ∧ bad < 1024) ∧ fr.length ≠ 0 ∧ fr.length ≤ 256 ∧ fitB init fr = true) := by
  unfold putF
  split
  · exact .inl rfl
  · rename_i h
    split
    · rename_i h2
      exact .inr ⟨rfl, by omega, by omega, by omega, h2⟩
    · exact .inl rfl
theorem far3 (W : World) (g : Nat) (v0 v1 v2 : Value) (k : Nat) (hk : k ≠ g) : (((W.setCell ⟨g, 0, none⟩ v0).setCell ⟨g, 1, none⟩ v1).setCell ⟨g, 2, none⟩ v2).heap[k]? = W.heap[k]? :=
  (Below.heap_setCell _ ⟨g, 2, none⟩ v2 k hk).trans ((Below.heap_setCell _ ⟨g, 1, none⟩ v1 k hk).trans (Below.heap_setCell _ ⟨g, 0, none⟩ v0 k hk))
theorem ne_new {w : World} {o : Obj} {k : Nat} (h : (w.alloc o).drew.heap.size ≤ k) : k ≠ w.heap.size := by
  have : (w.alloc o).drew.heap.size = w.heap.size + 1 := World.size_alloc w o
  omega
/-- Get: its rows lie in blocks that it made. -/
theorem got_far (k : Nat) (xs : List Int) (a1 a2 r1 : Int) (r2 : List Int) (r3 : List (List Int)) (r4 : Int) (h : wit_Get.f k xs a1 a2 = some (r1, r2, r3, r4)) (A : Option Addr) (c : Nat) (hc : xs.length ≤ c) (w : World) (hG : Gl w) (hC : Kd.C (Kd.int .u8) w A xs.length xs) :
    Calls Tryd.prog 12 #[.slice A xs.length c, .int .i64 a1, .int .i64 a2] w fun e w' => ∃ A1 c1 A2 c2, e = .returned (.tuple #[.agg #[.int .i64 r1, .slice A1 r2.length c1, .slice A2 r3.length c2], .int .i64 r4]) ∧ r2.length ≤ c1 ∧ r3.length ≤ c2 ∧ (∀ W', (∀ k, w.heap.size ≤ k → k < w'.heap.size → W'.heap[k]? = w'.heap[k]?) → Kd.C (Kd.int .u8) W' A1 r2.length r2 ∧ Kd.C (Kd.slice 5 (Kd.int .u8)) W' A2 r3.length r3) ∧ Below w.heap.size w w' := by
  refine (wit_Get.calls k (fun k_ => k_ < w.heap.size) A c xs a1 a2 r1 r2 r3 r4 w hG (Kd.V_mk hc (Kd.C_F (Kd.heap_int .u8) hC)) h).mono ?_
  rintro e w' ⟨v1, v2, rfl, hR, hS, hb⟩
  obtain ⟨A1, c1, rfl, hc1, _⟩ := Kd.R_reads hR
  obtain ⟨A2, c2, rfl, hc2, _⟩ := Kd.S_reads hS
  exact ⟨A1, c1, A2, c2, rfl, hc1, hc2, fun W' hW => ⟨(Kd.R_reads' (Kd.R_step hR hW)).2.2, (Kd.S_reads' (Kd.S_step hS (fun k hk => hW k hk.1))).2.2⟩, hb⟩
/-- Behind a call of Get: where its trace lies. -/
def AtGet (w3 : World) (n : Int) (init : List Int) (fr : List (List Int)) (s : Value) (W : World) : Prop :=
  ∃ o A1 c1 A2 c2, s = .pointer (some ⟨o, 0, none⟩) ∧ W.heap[o]? = some (.cells #[.int .i64 n, .slice A1 init.length c1, .slice A2 fr.length c2] 25 (0, 0)) ∧ init.length ≤ c1 ∧ Kd.C (Kd.int .u8) W A1 init.length init ∧ fr.length ≤ c2 ∧ Kd.C (Kd.slice 5 (Kd.int .u8)) W A2 fr.length fr ∧ Below w3.heap.size w3 W
set_option maxHeartbeats 6400000 in
set_option maxRecDepth 100000 in
theorem back_calls (bad : Int) (init : List Int) (fr : List (List Int)) (hin : RowsIn init fr) (hfl : fr.length ≤ 9223372036854775807) (cut more : Int) (hm : 0 ≤ more ∧ more < 256) (A1 : Option Addr) (c1 : Nat) (A2 : Option Addr) (c2 : Nat) (w : World) (hG : Gl w)
    (hr1 : Kd.C (Kd.int .u8) w A1 init.length init) (hc1 : init.length ≤ c1) (hr2 : Kd.C (Kd.slice 5 (Kd.int .u8)) w A2 fr.length fr) (hc2 : fr.length ≤ c2) :
    Calls Tryd.prog 4 #[.agg #[.int .i64 bad, .slice A1 init.length c1, .slice A2 fr.length c2], .int .i64 cut, .int .u8 more] w fun e w' => e = .returned (.bool true) ∧ Below w.heap.size w w' := by
  have hu := Tryd.underlying25
  obtain ⟨g, hg, hq⟩ := great_ev bad init fr hfl
  obtain ⟨kg, hkg⟩ := Ev.rounds hg
  have HB := Lib.hid ((Below.refl w.heap.size w).alloc (Nat.le_refl _) (.cells #[.int .i64 bad, .slice A1 init.length c1, .slice A2 fr.length c2] 25))
  have hbk := blk_new w (.cells #[.int .i64 bad, .slice A1 init.length c1, .slice A2 fr.length c2] 25)
  have HX := Lib.hid hbk
  have q0 : (w.alloc (.cells #[.int .i64 bad, .slice A1 init.length c1, .slice A2 fr.length c2] 25)).cell? ⟨w.heap.size, 0, none⟩ = some (.int .i64 bad) := (blk_cell hbk 0).trans rfl
  have q1 : (w.alloc (.cells #[.int .i64 bad, .slice A1 init.length c1, .slice A2 fr.length c2] 25)).cell? ⟨w.heap.size, 1, none⟩ = some (.slice A1 init.length c1) := (blk_cell hbk 1).trans rfl
  have q2 : (w.alloc (.cells #[.int .i64 bad, .slice A1 init.length c1, .slice A2 fr.length c2] 25)).cell? ⟨w.heap.size, 2, none⟩ = some (.slice A2 fr.length c2) := (blk_cell hbk 2).trans rfl
  have HG := Lib.hid hG
  have HR1 := Lib.hid hr1
  have HR2 := Lib.hid hr2
  have HGR := Lib.hid (fun (W : World) (hb : Below w.heap.size w W) => inquestlaw05_great.calls kg bad A1 c1 init A2 c2 fr g W (Kd.C_below HR1.out hb) hc1 (Kd.C_below HR2.out hb) hc2 hkg)
  have HLI := Lib.hid (fun (W : World) (hb : Below w.heap.size w W) => lives_calls W (Gl.below hb HG.out))
  have HPU := Lib.hid (fun (r1 : List Int) (r2 : Int) (hp : putF bad init fr = (r1, r2)) (W : World) (hb : Below w.heap.size w W) => wit_Put.calls bad A1 c1 init A2 c2 fr r1 r2 W (Gl.below hb HG.out) (Kd.C_below HR1.out hb) hc1 (Kd.C_below HR2.out hb) hc2 (by unfold wit_Put.f; rw [if_pos hin, hp]))
  have HIN := Lib.hid hin
  clear hbk hG hr1 hkg hg hin
  rcases putF_cases bad init fr with hp | ⟨hp, hbad, hf0, hf256, hfit⟩
  · have HP := Lib.hid (HPU.out _ _ hp)
    clear hp hr2 HPU
    go_enter Tryd.func4, Tryd.ntmps4
    go_wp2_with fail
    refine (HP.out _ HB.out).mono ?_
    rintro e w2 ⟨v, rfl, hv, hb2⟩
    obtain ⟨Av, cv, rfl⟩ := Kd.R_slice hv
    have HX2 := Lib.hid (blk_below HX.out hb2)
    have p0 : w2.cell? ⟨w.heap.size, 0, none⟩ = some (.int .i64 bad) := (blk_cell HX2.out 0).trans rfl
    have p1 : w2.cell? ⟨w.heap.size, 1, none⟩ = some (.slice A1 init.length c1) := (blk_cell HX2.out 1).trans rfl
    have p2 : w2.cell? ⟨w.heap.size, 2, none⟩ = some (.slice A2 fr.length c2) := (blk_cell HX2.out 2).trans rfl
    have HB2 := Lib.hid (below_step HB.out hb2)
    clear hv hb2 HP HX q0 q1 q2
    go_wp2_with fail
    refine (HGR.out _ HB2.out).mono ?_
    rintro e w3 ⟨rfl, hb3⟩
    have HX3 := Lib.hid (blk_below HX2.out hb3)
    have HB3 := Lib.hid (below_step HB2.out hb3)
    have p30 : w3.cell? ⟨w.heap.size, 0, none⟩ = some (.int .i64 bad) := (blk_cell HX3.out 0).trans rfl
    have p31 : w3.cell? ⟨w.heap.size, 1, none⟩ = some (.slice A1 init.length c1) := (blk_cell HX3.out 1).trans rfl
    have p32 : w3.cell? ⟨w.heap.size, 2, none⟩ = some (.slice A2 fr.length c2) := (blk_cell HX3.out 2).trans rfl
    clear hb3 p0 p1 p2 HX2
    cases g
    all_goals
      go_wp2_with fail
      refine (HGR.out _ HB3.out).mono ?_
      rintro e w4 ⟨rfl, hb4⟩
      have HB4 := Lib.hid (below_step HB3.out hb4)
      clear hb4 p30 p31 p32
      go_wp2_with fail
      refine (HLI.out _ HB4.out).mono ?_
      rintro e w5 ⟨rfl, hb5⟩
      have HB5 := Lib.hid (below_step HB4.out hb5)
      clear hb5
      go_wp2_with fail
      go_ret
      exact ⟨rfl, HB5.out⟩
  · have HP := Lib.hid (HPU.out _ _ hp)
    obtain ⟨n, rfl⟩ : ∃ n : Nat, bad = (n : Int) := ⟨bad.toNat, by omega⟩
    obtain ⟨hoi, hof, hl1, hl2⟩ := fit_rows HIN.out hfit
    obtain ⟨ad, rfl, _⟩ := hr2.2.2 (by omega)
    have hfb : ((fr.length : Int) == 0) = false := beq_eq_false_iff_ne.2 (by omega)
    clear hp HPU
    cases g
    · have hsum := hq (by
        have := sum_le fr (fun x hx => by have := (hof x hx).2; omega)
        omega) rfl
      obtain ⟨hpl, hp2⟩ := put_len n (by omega) init fr hsum hf256
      have hpb := put_bytes n init fr hoi hof
      have HGET := Lib.hid (fun m (hm1 : (putL n init fr ++ m).length ≤ 1000000) => Ev.rounds (ev_get _ (init.length : Int) ((fr.headD []).length : Int) (by omega) (by omega) hm1 _ (ev_whole n (init.length : Int) ((fr.headD []).length : Int) init fr m (by omega) hoi hof hf256 hf0 hm1)))
      have HCUT := Lib.hid (fun x0 y (hx : x0.length ≤ 1000000) (h : x0 ++ y = putL n init fr) (hy : y ≠ []) => Ev.rounds (ev_get _ (init.length : Int) ((fr.headD []).length : Int) (by omega) (by omega) hx _ (ev_cut n (init.length : Int) ((fr.headD []).length : Int) init fr (by omega) hoi hof hf256 x0 y hx h hy)))
      obtain ⟨ks, hks⟩ := Ev.rounds (same_ev n init fr)
      have HSM := Lib.hid hks
      have HPB := Lib.hid hpb
      have hfirst : ∃ A c, (∀ wr, Below w.heap.size w wr → wr.cell? ad = some (Value.slice A (fr.headD []).length c)) := by
        cases fr with
        | nil => exact absurd (rfl : ([] : List (List Int)).length = 0) hf0
        | cons y t =>
          obtain ⟨inner, hreps, hcell⟩ := ReadsRow.inner_ hr2
          obtain ⟨A, c, hp', _, _⟩ := hreps.2 0 y rfl
          refine ⟨A, c, fun wr hb => ?_⟩
          have h0 : inner[0]? = some (Value.slice A y.length c) := by
            have h1 : ((inner.drop (0 * (Kd.slice 5 (Kd.int .u8)).sz)).take (Kd.slice 5 (Kd.int .u8)).sz) = [Value.slice A y.length c] := hp'
            have h2 : ((inner.drop (0 * 1)).take 1) = [Value.slice A y.length c] := h1
            have := congrArg (fun l => l[0]?) h2
            simpa [List.getElem?_take] using this
          have h3 := hcell 0 _ h0
          rw [show ad.add 0 = ad from by cases ad; rfl] at h3
          exact (hb.cell (World.block_lt_of_cell? w _ h3)).trans h3
      obtain ⟨Af, cf, hff⟩ := hfirst
      have HFF := Lib.hid hff
      clear hff hpb hks hsum hq hr2 hoi hof hl1 hl2
      generalize hfst : (fr.headD []).length = first at *
      generalize hbL : putL n init fr = b at *
      go_enter Tryd.func4, Tryd.ntmps4
      go_wp2_with fail
      refine (HP.out _ HB.out).mono ?_
      rintro e w2 ⟨v, rfl, hv, hb2⟩
      obtain ⟨Av, cv, rfl, hcv, hCv⟩ := Kd.R_reads hv
      have HX2 := Lib.hid (blk_below HX.out hb2)
      have p0 : w2.cell? ⟨w.heap.size, 0, none⟩ = some (.int .i64 (n : Int)) := (blk_cell HX2.out 0).trans rfl
      have p1 : w2.cell? ⟨w.heap.size, 1, none⟩ = some (.slice A1 init.length c1) := (blk_cell HX2.out 1).trans rfl
      have p2 : w2.cell? ⟨w.heap.size, 2, none⟩ = some (.slice (some ad) fr.length c2) := (blk_cell HX2.out 2).trans rfl
      have HB2 := Lib.hid (below_step HB.out hb2)
      have HC2 := Lib.hid hCv
      clear hv hb2 HP HX q0 q1 q2 hCv
      go_wp2_with fail
      refine (HGR.out _ HB2.out).mono ?_
      rintro e w3 ⟨rfl, hb3⟩
      have HX3 := Lib.hid (blk_below HX2.out hb3)
      have HB3 := Lib.hid (below_step HB2.out hb3)
      have HC3 := Lib.hid (Kd.C_below HC2.out hb3)
      have p30 : w3.cell? ⟨w.heap.size, 0, none⟩ = some (.int .i64 (n : Int)) := (blk_cell HX3.out 0).trans rfl
      have p31 : w3.cell? ⟨w.heap.size, 1, none⟩ = some (.slice A1 init.length c1) := (blk_cell HX3.out 1).trans rfl
      have p32 : w3.cell? ⟨w.heap.size, 2, none⟩ = some (.slice (some ad) fr.length c2) := (blk_cell HX3.out 2).trans rfl
      have x3 := HFF.out w3 HB3.out
      have hfp : (0 : Int) < (fr.length : Int) := by omega
      have hfn : 0 < fr.length := by omega
      clear hb3 p0 p1 p2 HX2 HC2
      have HQ : Hid (∀ W, Below w3.heap.size w3 W → W.cell? ⟨w.heap.size, 1, none⟩ = some (.slice A1 init.length c1) ∧ W.cell? ⟨w.heap.size, 2, none⟩ = some (.slice (some ad) fr.length c2) ∧ W.cell? ad = some (.slice Af first cf)) := Lib.hid (fun W hb => ⟨(blk_cell (blk_below HX3.out hb) 1).trans rfl, (blk_cell (blk_below HX3.out hb) 2).trans rfl, HFF.out W (below_step HB3.out hb)⟩)
      have HGT : Hid (∀ W A c, Below w.heap.size w W → b.length ≤ c → Kd.C (Kd.int .u8) W A b.length b → Calls Tryd.prog 12 #[.slice A b.length c, .int .i64 (init.length : Int), .int .i64 (first : Int)] W fun e w' => ∃ A1 c1 A2 c2, e = .returned (.tuple #[.agg #[.int .i64 (n : Int), .slice A1 init.length c1, .slice A2 fr.length c2], .int .i64 0]) ∧ init.length ≤ c1 ∧ fr.length ≤ c2 ∧ (∀ W', (∀ k, W.heap.size ≤ k → k < w'.heap.size → W'.heap[k]? = w'.heap[k]?) → Kd.C (Kd.int .u8) W' A1 init.length init ∧ Kd.C (Kd.slice 5 (Kd.int .u8)) W' A2 fr.length fr) ∧ Below W.heap.size W w') := Lib.hid (fun W A c hb hc hC => by
        obtain ⟨k0, hk0⟩ := HGET.out [] (by rw [List.append_nil]; omega)
        rw [List.append_nil] at hk0
        exact got_far k0 b _ _ _ _ _ _ hk0 A c hc W (Gl.below hb HG.out) hC)
      go_upto_region 4 with fail
      clear p30 p31 p32 x3
      go_cut [9, 10] from 46 to 58 (fun s9 s10 wx => s10 = .int .i64 0 ∧ AtGet w3 n init fr s9 wx)
      case first =>
        go_region_held3 (fun W => W.cell? ⟨w.heap.size, 1, none⟩ = some (.slice A1 init.length c1) ∧ W.cell? ⟨w.heap.size, 2, none⟩ = some (.slice (some ad) fr.length c2) ∧ W.cell? ad = some (.slice Af first cf))
          (exact HQ.out _ (by repeat (first | assumption | exact Below.refl _ _ | refine below_drew1 ?_ | refine below_alloc ?_ _ | refine below_set ?_ (by first | exact Nat.le_refl _ | exact below_size (by assumption)))))
          (first
            | (go_at_call 12; refine (HGT.out _ Av cv (by first | exact below_drew1 HB3.out | exact below_alloc (below_drew1 HB3.out) _) hcv (by first | exact Kd.C_drew HC3.out | exact Kd.C_alloc (Kd.C_drew HC3.out) _)).mono ?_; rintro e w4 ⟨D1, d1, D2, d2, rfl, hd1, hd2, hDD, hb4⟩; have hb4w : Below w3.heap.size w3 w4 := below_step (by first | exact below_drew1 (Below.refl _ _) | exact below_alloc (below_drew1 (Below.refl _ _)) _) hb4; first | (have hO := blk_below (blk_new (World.drew w3) (.cells #[.int .i64 0, .slice none 0 0, .slice none 0 0] 25)) hb4; have q40 : w4.cell? ⟨w3.heap.size, 0, none⟩ = _ := (blk_cell hO 0).trans rfl; have q41 : w4.cell? ⟨w3.heap.size, 1, none⟩ = _ := (blk_cell hO 1).trans rfl; have q42 : w4.cell? ⟨w3.heap.size, 2, none⟩ = _ := (blk_cell hO 2).trans rfl; have z40 : w4.frozen? ⟨w3.heap.size, 0, none⟩ = false := blk_frozen hO 0; have z41 : w4.frozen? ⟨w3.heap.size, 1, none⟩ = false := blk_frozen hO 1; have z42 : w4.frozen? ⟨w3.heap.size, 2, none⟩ = false := blk_frozen hO 2) | skip))
        all_goals
          go_wp2_with fail
          go_meet
          first
            | (have hDW := hDD _ (fun k _ hk => Below.heap_alloc w4 (.cells #[.int .i64 (n : Int), .slice D1 init.length d1, .slice D2 fr.length d2] 25) k hk)
               exact ⟨rfl, _, D1, d1, D2, d2, rfl, blk_new w4 _, hd1, hDW.1, hd2, hDW.2, below_alloc hb4w _⟩)
            | (have hDW := hDD _ (fun k hk _ => far3 w4 w3.heap.size (.int .i64 (n : Int)) (.slice D1 init.length d1) (.slice D2 fr.length d2) k (ne_new (o := .cells #[.int .i64 0, .slice none 0 0, .slice none 0 0] 25) hk))
               exact ⟨rfl, _, D1, d1, D2, d2, rfl, blk_set (blk_set (blk_set hO 0 _) 1 _) 2 _, hd1, hDW.1, hd2, hDW.2, below_set (below_set (below_set hb4w (Nat.le_refl _)) (Nat.le_refl _)) (Nat.le_refl _)⟩)
      case rest =>
      obtain ⟨rfl, og, D1, d1, D2, d2, rfl, hog, hd1, hD1, hd2, hD2, hbc⟩ := hcut
      have HO := Lib.hid hog
      have HBC := Lib.hid hbc
      have HD1 := Lib.hid hD1
      have HD2 := Lib.hid hD2
      clear hog hbc hD1 hD2
      have HCV : Hid (∀ W, Below w3.heap.size w3 W → (convert 22 9 (.slice Av b.length cv)).run Tryd.prog W = .ok (.string (strOfNums b)) W) := Lib.hid (fun W hb => Kd.C_string (P := Tryd.prog) (A := Av) (c := cv) Tryd.underlying22 Tryd.underlying5 Tryd.underlying9 (Kd.C_below HC3.out hb))
      have hmr := made_run b
      have hms := made_size b
      obtain ⟨bm, hbm⟩ : ∃ l, b ++ [more] = l := ⟨_, rfl⟩
      have HGT5 : Hid (∀ W A c, Below w.heap.size w W → bm.length ≤ c → Kd.C (Kd.int .u8) W A bm.length bm → Calls Tryd.prog 12 #[.slice A bm.length c, .int .i64 (init.length : Int), .int .i64 (first : Int)] W fun e w' => ∃ A1 c1 A2 c2, e = .returned (.tuple #[.agg #[.int .i64 0, .slice A1 0 c1, .slice A2 0 c2], .int .i64 5]) ∧ Below W.heap.size W w') := Lib.hid (fun W A c hb hc hC => by
        obtain ⟨k0, hk0⟩ := HGET.out [more] (by rw [List.length_append]; show b.length + 1 ≤ _; omega)
        rw [if_pos (show 0 < [more].length from Nat.zero_lt_succ _), hbm] at hk0
        refine (got_calls k0 bm _ _ _ _ _ _ hk0 A c hc W (Gl.below hb HG.out) hC).mono ?_
        rintro e w' ⟨A1, c1, A2, c2, rfl, _, _, _, _, hb'⟩
        exact ⟨A1, c1, A2, c2, rfl, hb'⟩)
      have HBM := Lib.hid hbm
      clear hbm
      have HQ5 : Hid (∀ W, Below wc.heap.size wc W → W.cell? ⟨w.heap.size, 1, none⟩ = some (.slice A1 init.length c1) ∧ W.cell? ⟨w.heap.size, 2, none⟩ = some (.slice (some ad) fr.length c2) ∧ W.cell? ad = some (.slice Af first cf) ∧ (convert 22 9 (.slice Av b.length cv)).run Tryd.prog W = .ok (.string (strOfNums b)) W) := Lib.hid (fun W hb => have h1 := below_step HBC.out hb; ⟨(HQ.out W h1).1, (HQ.out W h1).2.1, (HQ.out W h1).2.2, HCV.out W h1⟩)
      go_upto_region 5 with fail
      go_cut [11, 12] from 59 to 76 (fun s11 s12 wx => s12 = .int .i64 5 ∧ Below wc.heap.size wc wx)
      case first =>
        refine wp_region_noPanic ?_
        refine wp_region_held_drew (S := (fun W => W.cell? ⟨w.heap.size, 1, none⟩ = some (.slice A1 init.length c1) ∧ W.cell? ⟨w.heap.size, 2, none⟩ = some (.slice (some ad) fr.length c2) ∧ W.cell? ad = some (.slice Af first cf) ∧ (convert 22 9 (.slice Av b.length cv)).run Tryd.prog W = .ok (.string (strOfNums b)) W)) (by kernel_rfl) (HQ5.out _ (below_drew1 (Below.refl _ _))) (fun hHeld => ?_)
        refine wpAnyH_take (i := 0) (v := .slice Av b.length cv) (by simp only [List.getElem?_toArray, List.getElem?_cons_succ, List.getElem?_cons_zero]; rfl) (by kernel_rfl) (by kernel_rfl) (by kernel_rfl) (fun _ _ _ h => h) (Or.inl ⟨by rfl, by intro W hSw; go_simp⟩) (by assumption) ?_
        (try simp only [Act.put, List.setIfInBounds_toArray, List.set_cons_zero, List.set_cons_succ])
        refine wpAnyH_take (i := 1) (v := .string (strOfNums b)) (by simp only [List.getElem?_toArray, List.getElem?_cons_succ, List.getElem?_cons_zero]; rfl) (by kernel_rfl) (by kernel_rfl) (by kernel_rfl) (fun _ _ _ h => h) (Or.inl ⟨by rfl, by intro W hSw; go_simp⟩) (by assumption) ?_
        (try simp only [Act.put, List.setIfInBounds_toArray, List.set_cons_zero, List.set_cons_succ])
        refine wpAnyH_take (i := 3) (v := .int .u8 more) (by simp only [List.getElem?_toArray, List.getElem?_cons_succ, List.getElem?_cons_zero]; rfl) (by kernel_rfl) (by kernel_rfl) (by kernel_rfl) (fun _ _ _ h => h) (Or.inl ⟨by rfl, by intro W hSw; go_simp⟩) (by assumption) ?_
        (try simp only [Act.put, List.setIfInBounds_toArray, List.set_cons_zero, List.set_cons_succ])
        refine wpAnyH_take (i := 6) (v := .pointer (some ⟨w.heap.size, 1, none⟩)) (by simp only [List.getElem?_toArray, List.getElem?_cons_succ, List.getElem?_cons_zero]; rfl) (by kernel_rfl) (by kernel_rfl) (by kernel_rfl) (fun _ _ _ h => h) (Or.inl ⟨by rfl, by intro W hSw; go_simp⟩) (by assumption) ?_
        (try simp only [Act.put, List.setIfInBounds_toArray, List.set_cons_zero, List.set_cons_succ])
        refine wpAnyH_take (i := 7) (v := .slice A1 init.length c1) (by simp only [List.getElem?_toArray, List.getElem?_cons_succ, List.getElem?_cons_zero]; rfl) (by kernel_rfl) (by kernel_rfl) (by kernel_rfl) (fun _ _ _ h => h) (Or.inl ⟨by rfl, by intro W hSw; go_simp⟩) (by assumption) ?_
        (try simp only [Act.put, List.setIfInBounds_toArray, List.set_cons_zero, List.set_cons_succ])
        refine wpAnyH_take (i := 8) (v := .int .i64 (init.length : Int)) (by simp only [List.getElem?_toArray, List.getElem?_cons_succ, List.getElem?_cons_zero]; rfl) (by kernel_rfl) (by kernel_rfl) (by kernel_rfl) (fun _ _ _ h => h) (Or.inl ⟨by rfl, by intro W hSw; go_simp⟩) (by assumption) ?_
        (try simp only [Act.put, List.setIfInBounds_toArray, List.set_cons_zero, List.set_cons_succ])
        refine wpAnyH_take (i := 9) (v := .pointer (some ⟨w.heap.size, 2, none⟩)) (by simp only [List.getElem?_toArray, List.getElem?_cons_succ, List.getElem?_cons_zero]; rfl) (by kernel_rfl) (by kernel_rfl) (by kernel_rfl) (fun _ _ _ h => h) (Or.inl ⟨by rfl, by intro W hSw; go_simp⟩) (by assumption) ?_
        (try simp only [Act.put, List.setIfInBounds_toArray, List.set_cons_zero, List.set_cons_succ])
        refine wpAnyH_take (i := 10) (v := .slice (some ad) fr.length c2) (by simp only [List.getElem?_toArray, List.getElem?_cons_succ, List.getElem?_cons_zero]; rfl) (by kernel_rfl) (by kernel_rfl) (by kernel_rfl) (fun _ _ _ h => h) (Or.inl ⟨by rfl, by intro W hSw; go_simp⟩) (by assumption) ?_
        (try simp only [Act.put, List.setIfInBounds_toArray, List.set_cons_zero, List.set_cons_succ])
        refine wpAnyH_take (i := 11) (v := .pointer (some ad)) (by simp only [List.getElem?_toArray, List.getElem?_cons_succ, List.getElem?_cons_zero]; rfl) (by kernel_rfl) (by kernel_rfl) (by kernel_rfl) (fun _ _ _ h => h) (Or.inl ⟨by rfl, by intro W hSw; go_simp⟩) (by assumption) ?_
        (try simp only [Act.put, List.setIfInBounds_toArray, List.set_cons_zero, List.set_cons_succ])
        refine wpAnyH_take (i := 12) (v := .slice Af first cf) (by simp only [List.getElem?_toArray, List.getElem?_cons_succ, List.getElem?_cons_zero]; rfl) (by kernel_rfl) (by kernel_rfl) (by kernel_rfl) (fun _ _ _ h => h) (Or.inl ⟨by rfl, by intro W hSw; go_simp⟩) (by assumption) ?_
        (try simp only [Act.put, List.setIfInBounds_toArray, List.set_cons_zero, List.set_cons_succ])
        refine wpAnyH_take (i := 13) (v := .int .i64 (first : Int)) (by simp only [List.getElem?_toArray, List.getElem?_cons_succ, List.getElem?_cons_zero]; rfl) (by kernel_rfl) (by kernel_rfl) (by kernel_rfl) (fun _ _ _ h => h) (Or.inl ⟨by rfl, by intro W hSw; go_simp⟩) (by assumption) ?_
        (try simp only [Act.put, List.setIfInBounds_toArray, List.set_cons_zero, List.set_cons_succ])
        refine wpAnyH_ready (rs := [2, 4, 18]) (by kernel_rfl) (by simp) ?_
        refine AllReadyH.cons (by simp only [List.getElem?_toArray, List.getElem?_cons_succ, List.getElem?_cons_zero]; rfl) (fun K hK => ?_) ?_
        · go_simp
          refine hK.out _ _ (HQ5.out _ (by repeat (first | assumption | exact Below.refl _ _ | refine below_drew1 ?_ | refine below_alloc ?_ _ | refine below_made ?_ _ | refine below_set ?_ (by first | exact Nat.le_refl _ | exact Nat.le_add_right _ _ | exact below_size (by assumption) | omega)))) (fun hHeld => ?_)
          clear hK K
          (try simp only [Act.put, List.setIfInBounds_toArray, List.set_cons_zero, List.set_cons_succ])
          refine wpAnyH_ready (rs := [4, 18]) (by kernel_rfl) (by simp) ?_
          refine AllReadyH.cons (by simp only [List.getElem?_toArray, List.getElem?_cons_succ, List.getElem?_cons_zero]; rfl) (fun K hK => ?_) ?_
          · go_simp
            refine hK.out _ _ (HQ5.out _ (by repeat (first | assumption | exact Below.refl _ _ | refine below_drew1 ?_ | refine below_alloc ?_ _ | refine below_made ?_ _ | refine below_set ?_ (by first | exact Nat.le_refl _ | exact Nat.le_add_right _ _ | exact below_size (by assumption) | omega)))) (fun hHeld => ?_)
            clear hK K
            (try simp only [Act.put, List.setIfInBounds_toArray, List.set_cons_zero, List.set_cons_succ])
            refine wpAnyH_ready (rs := [5, 18]) (by kernel_rfl) (by simp) ?_
            refine AllReadyH.cons (by simp only [List.getElem?_toArray, List.getElem?_cons_succ, List.getElem?_cons_zero]; rfl) (fun K hK => ?_) ?_
            · refine step_append_made wc _ rfl (.tmp 62) (.tmp 64) rfl b HPB.out _ _ more (by rfl) _ (by rfl) (by repeat (first | exact made_at b (by first | rfl | (simp [made_size]; done)) | refine MadeAt.drew ?_ | refine MadeAt.alloc ?_ _)) (t := 5) (by repeat (first | exact blk_new_at (by first | rfl | (simp [made_size]; done)) _ | refine blk_drew ?_ | refine blk_made ?_ _ | refine blk_alloc ?_ _)) (by first | exact Nat.le_refl _ | exact Nat.le_add_right _ _ | omega) (by repeat (first | assumption | exact Below.refl _ _ | refine below_drew1 ?_ | refine below_alloc ?_ _ | refine below_made ?_ _ | refine below_set ?_ (by first | exact Nat.le_refl _ | exact Nat.le_add_right _ _ | exact below_size (by assumption) | omega))) (by omega) bm HBM.out ?_
              intro A5 c5 w5 hC5 hc5 hb5 hk5
              refine hK.out _ _ (HQ5.out _ (by repeat (first | assumption | exact Below.refl _ _ | refine below_drew1 ?_ | refine below_alloc ?_ _ | refine below_made ?_ _ | refine below_set ?_ (by first | exact Nat.le_refl _ | exact Nat.le_add_right _ _ | exact below_size (by assumption) | omega)))) (fun hHeld => ?_)
              clear hK K
              (try simp only [Act.put, List.setIfInBounds_toArray, List.set_cons_zero, List.set_cons_succ])
              refine wpAnyH_ready (rs := [14, 18]) (by kernel_rfl) (by simp) ?_
              refine AllReadyH.cons (by simp only [List.getElem?_toArray, List.getElem?_cons_succ, List.getElem?_cons_zero]; rfl) (fun K hK => ?_) ?_
              · go_simp
                go_at_call 12
                refine (HGT5.out w5 A5 c5 (below_step (below_step HB3.out HBC.out) (by repeat (first | assumption | exact Below.refl _ _ | refine below_drew1 ?_ | refine below_alloc ?_ _ | refine below_made ?_ _ | refine below_set ?_ (by first | exact Nat.le_refl _ | exact Nat.le_add_right _ _ | exact below_size (by assumption) | omega)))) hc5 hC5).mono ?_
                rintro e w6 ⟨E1, e1, E2, e2, rfl, hb6⟩
                have hb6w : Below wc.heap.size wc w6 := below_step (by repeat (first | assumption | exact Below.refl _ _ | refine below_drew1 ?_ | refine below_alloc ?_ _ | refine below_made ?_ _ | refine below_set ?_ (by first | exact Nat.le_refl _ | exact Nat.le_add_right _ _ | exact below_size (by assumption) | omega))) hb6
                (try go_back)
                refine hK.out _ _ (HQ5.out _ (by repeat (first | assumption | exact Below.refl _ _ | refine below_drew1 ?_ | refine below_alloc ?_ _ | refine below_made ?_ _ | refine below_set ?_ (by first | exact Nat.le_refl _ | exact Nat.le_add_right _ _ | exact below_size (by assumption) | omega)))) (fun hHeld => ?_)
                clear hK K
                (try simp only [Act.put, List.setIfInBounds_toArray, List.set_cons_zero, List.set_cons_succ])
                refine wpAnyH_take (i := 15) (v := .tuple #[.agg #[.int .i64 0, .slice E1 0 e1, .slice E2 0 e2], .int .i64 5]) (by simp only [List.getElem?_toArray, List.getElem?_cons_succ, List.getElem?_cons_zero]; rfl) (by kernel_rfl) (by kernel_rfl) (by kernel_rfl) (fun _ _ _ h => h) (Or.inl ⟨by rfl, by intro W hSw; go_simp⟩) (by assumption) ?_
                (try simp only [Act.put, List.setIfInBounds_toArray, List.set_cons_zero, List.set_cons_succ])
                refine wpAnyH_take (i := 16) (v := .agg #[.int .i64 0, .slice E1 0 e1, .slice E2 0 e2]) (by simp only [List.getElem?_toArray, List.getElem?_cons_succ, List.getElem?_cons_zero]; rfl) (by kernel_rfl) (by kernel_rfl) (by kernel_rfl) (fun _ _ _ h => h) (Or.inl ⟨by rfl, by intro W hSw; go_simp⟩) (by assumption) ?_
                (try simp only [Act.put, List.setIfInBounds_toArray, List.set_cons_zero, List.set_cons_succ])
                refine wpAnyH_take (i := 17) (v := .int .i64 5) (by simp only [List.getElem?_toArray, List.getElem?_cons_succ, List.getElem?_cons_zero]; rfl) (by kernel_rfl) (by kernel_rfl) (by kernel_rfl) (fun _ _ _ h => h) (Or.inl ⟨by rfl, by intro W hSw; go_simp⟩) (by assumption) ?_
                (try simp only [Act.put, List.setIfInBounds_toArray, List.set_cons_zero, List.set_cons_succ])
                refine wpAnyH_ready (rs := [18]) (by kernel_rfl) (by simp) ?_
                refine AllReadyH.cons (by simp only [List.getElem?_toArray, List.getElem?_cons_succ, List.getElem?_cons_zero]; rfl) (fun K hK => ?_) ?_
                · go_simp
                  refine hK.out _ _ (HQ5.out _ (by repeat (first | assumption | exact Below.refl _ _ | refine below_drew1 ?_ | refine below_alloc ?_ _ | refine below_made ?_ _ | refine below_set ?_ (by first | exact Nat.le_refl _ | exact Nat.le_add_right _ _ | exact below_size (by assumption) | omega)))) (fun hHeld => ?_)
                  clear hK K
                  (try simp only [Act.put, List.setIfInBounds_toArray, List.set_cons_zero, List.set_cons_succ])
                  refine wpAnyH_ready (rs := [19]) (by kernel_rfl) (by simp) ?_
                  refine AllReadyH.cons (by simp only [List.getElem?_toArray, List.getElem?_cons_succ, List.getElem?_cons_zero]; rfl) (fun K hK => ?_) ?_
                  · go_simp
                    refine hK.out _ _ (HQ5.out _ (by repeat (first | assumption | exact Below.refl _ _ | refine below_drew1 ?_ | refine below_alloc ?_ _ | refine below_made ?_ _ | refine below_set ?_ (by first | exact Nat.le_refl _ | exact Nat.le_add_right _ _ | exact below_size (by assumption) | omega)))) (fun hHeld => ?_)
                    clear hK K
                    (try simp only [Act.put, List.setIfInBounds_toArray, List.set_cons_zero, List.set_cons_succ])
                    refine wpAnyH_take (i := 20) (v := .int .i64 5) (by simp only [List.getElem?_toArray, List.getElem?_cons_succ, List.getElem?_cons_zero]; rfl) (by kernel_rfl) (by kernel_rfl) (by kernel_rfl) (fun _ _ _ h => h) (Or.inl ⟨by rfl, by intro W hSw; go_simp⟩) (by assumption) ?_
                    (try simp only [Act.put, List.setIfInBounds_toArray, List.set_cons_zero, List.set_cons_succ])
                    refine wpAnyH_done (by kernel_rfl) ?_ _
                    refine NoPanic.normal ?_
                    go_wp2_with fail
                    go_meet
                    exact ⟨rfl, (by repeat (first | assumption | exact Below.refl _ _ | refine below_drew1 ?_ | refine below_alloc ?_ _ | refine below_made ?_ _ | refine below_set ?_ (by first | exact Nat.le_refl _ | exact Nat.le_add_right _ _ | exact below_size (by assumption) | omega)))⟩
                  exact AllReadyH.nil
                exact AllReadyH.nil
              refine AllReadyH.cons (by simp only [List.getElem?_toArray, List.getElem?_cons_succ, List.getElem?_cons_zero]; rfl) (fun K hK => ?_) ?_
              · go_simp
                refine hK.out _ _ (HQ5.out _ (by repeat (first | assumption | exact Below.refl _ _ | refine below_drew1 ?_ | refine below_alloc ?_ _ | refine below_made ?_ _ | refine below_set ?_ (by first | exact Nat.le_refl _ | exact Nat.le_add_right _ _ | exact below_size (by assumption) | omega)))) (fun hHeld => ?_)
                clear hK K
                (try simp only [Act.put, List.setIfInBounds_toArray, List.set_cons_zero, List.set_cons_succ])
                refine wpAnyH_ready (rs := [14]) (by kernel_rfl) (by simp) ?_
                refine AllReadyH.cons (by simp only [List.getElem?_toArray, List.getElem?_cons_succ, List.getElem?_cons_zero]; rfl) (fun K hK => ?_) ?_
                · go_simp
                  go_at_call 12
                  refine (HGT5.out (World.alloc w5 (.cells #[.int .i64 0, .slice none 0 0, .slice none 0 0] 25)) A5 c5 (below_step (below_step HB3.out HBC.out) (by repeat (first | assumption | exact Below.refl _ _ | refine below_drew1 ?_ | refine below_alloc ?_ _ | refine below_made ?_ _ | refine below_set ?_ (by first | exact Nat.le_refl _ | exact Nat.le_add_right _ _ | exact below_size (by assumption) | omega)))) hc5 (Kd.C_alloc hC5 _)).mono ?_
                  rintro e w6 ⟨E1, e1, E2, e2, rfl, hb6⟩
                  have hb6w : Below wc.heap.size wc w6 := below_step (by repeat (first | assumption | exact Below.refl _ _ | refine below_drew1 ?_ | refine below_alloc ?_ _ | refine below_made ?_ _ | refine below_set ?_ (by first | exact Nat.le_refl _ | exact Nat.le_add_right _ _ | exact below_size (by assumption) | omega))) hb6
                  have hO := blk_below (blk_new w5 (.cells #[.int .i64 0, .slice none 0 0, .slice none 0 0] 25)) hb6
                  have q0 : w6.cell? ⟨w5.heap.size, 0, none⟩ = _ := (blk_cell hO 0).trans rfl
                  have q1 : w6.cell? ⟨w5.heap.size, 1, none⟩ = _ := (blk_cell hO 1).trans rfl
                  have q2 : w6.cell? ⟨w5.heap.size, 2, none⟩ = _ := (blk_cell hO 2).trans rfl
                  have z0 : w6.frozen? ⟨w5.heap.size, 0, none⟩ = false := blk_frozen hO 0
                  have z1 : w6.frozen? ⟨w5.heap.size, 1, none⟩ = false := blk_frozen hO 1
                  have z2 : w6.frozen? ⟨w5.heap.size, 2, none⟩ = false := blk_frozen hO 2
                  (try go_back)
                  refine hK.out _ _ (HQ5.out _ (by repeat (first | assumption | exact Below.refl _ _ | refine below_drew1 ?_ | refine below_alloc ?_ _ | refine below_made ?_ _ | refine below_set ?_ (by first | exact Nat.le_refl _ | exact Nat.le_add_right _ _ | exact below_size (by assumption) | omega)))) (fun hHeld => ?_)
                  clear hK K
                  (try simp only [Act.put, List.setIfInBounds_toArray, List.set_cons_zero, List.set_cons_succ])
                  refine wpAnyH_take (i := 15) (v := .tuple #[.agg #[.int .i64 0, .slice E1 0 e1, .slice E2 0 e2], .int .i64 5]) (by simp only [List.getElem?_toArray, List.getElem?_cons_succ, List.getElem?_cons_zero]; rfl) (by kernel_rfl) (by kernel_rfl) (by kernel_rfl) (fun _ _ _ h => h) (Or.inl ⟨by rfl, by intro W hSw; go_simp⟩) (by assumption) ?_
                  (try simp only [Act.put, List.setIfInBounds_toArray, List.set_cons_zero, List.set_cons_succ])
                  refine wpAnyH_take (i := 16) (v := .agg #[.int .i64 0, .slice E1 0 e1, .slice E2 0 e2]) (by simp only [List.getElem?_toArray, List.getElem?_cons_succ, List.getElem?_cons_zero]; rfl) (by kernel_rfl) (by kernel_rfl) (by kernel_rfl) (fun _ _ _ h => h) (Or.inl ⟨by rfl, by intro W hSw; go_simp⟩) (by assumption) ?_
                  (try simp only [Act.put, List.setIfInBounds_toArray, List.set_cons_zero, List.set_cons_succ])
                  refine wpAnyH_take (i := 17) (v := .int .i64 5) (by simp only [List.getElem?_toArray, List.getElem?_cons_succ, List.getElem?_cons_zero]; rfl) (by kernel_rfl) (by kernel_rfl) (by kernel_rfl) (fun _ _ _ h => h) (Or.inl ⟨by rfl, by intro W hSw; go_simp⟩) (by assumption) ?_
                  (try simp only [Act.put, List.setIfInBounds_toArray, List.set_cons_zero, List.set_cons_succ])
                  refine wpAnyH_ready (rs := [19]) (by kernel_rfl) (by simp) ?_
                  refine AllReadyH.cons (by simp only [List.getElem?_toArray, List.getElem?_cons_succ, List.getElem?_cons_zero]; rfl) (fun K hK => ?_) ?_
                  · go_simp
                    refine hK.out _ _ (HQ5.out _ (by repeat (first | assumption | exact Below.refl _ _ | refine below_drew1 ?_ | refine below_alloc ?_ _ | refine below_made ?_ _ | refine below_set ?_ (by first | exact Nat.le_refl _ | exact Nat.le_add_right _ _ | exact below_size (by assumption) | omega)))) (fun hHeld => ?_)
                    clear hK K
                    (try simp only [Act.put, List.setIfInBounds_toArray, List.set_cons_zero, List.set_cons_succ])
                    refine wpAnyH_take (i := 20) (v := .int .i64 5) (by simp only [List.getElem?_toArray, List.getElem?_cons_succ, List.getElem?_cons_zero]; rfl) (by kernel_rfl) (by kernel_rfl) (by kernel_rfl) (fun _ _ _ h => h) (Or.inl ⟨by rfl, by intro W hSw; go_simp⟩) (by assumption) ?_
                    (try simp only [Act.put, List.setIfInBounds_toArray, List.set_cons_zero, List.set_cons_succ])
                    refine wpAnyH_done (by kernel_rfl) ?_ _
                    refine NoPanic.normal ?_
                    go_wp2_with fail
                    go_meet
                    exact ⟨rfl, (by repeat (first | assumption | exact Below.refl _ _ | refine below_drew1 ?_ | refine below_alloc ?_ _ | refine below_made ?_ _ | refine below_set ?_ (by first | exact Nat.le_refl _ | exact Nat.le_add_right _ _ | exact below_size (by assumption) | omega)))⟩
                  exact AllReadyH.nil
                exact AllReadyH.nil
              exact AllReadyH.nil
            refine AllReadyH.cons (by simp only [List.getElem?_toArray, List.getElem?_cons_succ, List.getElem?_cons_zero]; rfl) (fun K hK => ?_) ?_
            · go_simp
              refine hK.out _ _ (HQ5.out _ (by repeat (first | assumption | exact Below.refl _ _ | refine below_drew1 ?_ | refine below_alloc ?_ _ | refine below_made ?_ _ | refine below_set ?_ (by first | exact Nat.le_refl _ | exact Nat.le_add_right _ _ | exact below_size (by assumption) | omega)))) (fun hHeld => ?_)
              clear hK K
              (try simp only [Act.put, List.setIfInBounds_toArray, List.set_cons_zero, List.set_cons_succ])
              refine wpAnyH_ready (rs := [5]) (by kernel_rfl) (by simp) ?_
              refine AllReadyH.cons (by simp only [List.getElem?_toArray, List.getElem?_cons_succ, List.getElem?_cons_zero]; rfl) (fun K hK => ?_) ?_
              · refine step_append_made wc _ rfl (.tmp 62) (.tmp 64) rfl b HPB.out _ _ more (by rfl) _ (by rfl) (by repeat (first | exact made_at b (by first | rfl | (simp [made_size]; done)) | refine MadeAt.drew ?_ | refine MadeAt.alloc ?_ _)) (t := 5) (by repeat (first | exact blk_new_at (by first | rfl | (simp [made_size]; done)) _ | refine blk_drew ?_ | refine blk_made ?_ _ | refine blk_alloc ?_ _)) (by first | exact Nat.le_refl _ | exact Nat.le_add_right _ _ | omega) (by repeat (first | assumption | exact Below.refl _ _ | refine below_drew1 ?_ | refine below_alloc ?_ _ | refine below_made ?_ _ | refine below_set ?_ (by first | exact Nat.le_refl _ | exact Nat.le_add_right _ _ | exact below_size (by assumption) | omega))) (by omega) bm HBM.out ?_
                intro A5 c5 w5 hC5 hc5 hb5 hk5
                have hZ : w5.heap[wc.heap.size + 2]? = some (.cells #[.int .i64 0, .slice none 0 0, .slice none 0 0] 25 (0, 0)) := hk5 _ _ (by omega) (by repeat (first | exact blk_new_at (by first | rfl | (simp [made_size]; done)) _ | refine blk_drew ?_ | refine blk_made ?_ _ | refine blk_alloc ?_ _))
                refine hK.out _ _ (HQ5.out _ (by repeat (first | assumption | exact Below.refl _ _ | refine below_drew1 ?_ | refine below_alloc ?_ _ | refine below_made ?_ _ | refine below_set ?_ (by first | exact Nat.le_refl _ | exact Nat.le_add_right _ _ | exact below_size (by assumption) | omega)))) (fun hHeld => ?_)
                clear hK K
                (try simp only [Act.put, List.setIfInBounds_toArray, List.set_cons_zero, List.set_cons_succ])
                refine wpAnyH_ready (rs := [14]) (by kernel_rfl) (by simp) ?_
                refine AllReadyH.cons (by simp only [List.getElem?_toArray, List.getElem?_cons_succ, List.getElem?_cons_zero]; rfl) (fun K hK => ?_) ?_
                · go_simp
                  go_at_call 12
                  refine (HGT5.out w5 A5 c5 (below_step (below_step HB3.out HBC.out) (by repeat (first | assumption | exact Below.refl _ _ | refine below_drew1 ?_ | refine below_alloc ?_ _ | refine below_made ?_ _ | refine below_set ?_ (by first | exact Nat.le_refl _ | exact Nat.le_add_right _ _ | exact below_size (by assumption) | omega)))) hc5 hC5).mono ?_
                  rintro e w6 ⟨E1, e1, E2, e2, rfl, hb6⟩
                  have hb6w : Below wc.heap.size wc w6 := below_step (by repeat (first | assumption | exact Below.refl _ _ | refine below_drew1 ?_ | refine below_alloc ?_ _ | refine below_made ?_ _ | refine below_set ?_ (by first | exact Nat.le_refl _ | exact Nat.le_add_right _ _ | exact below_size (by assumption) | omega))) hb6
                  have hO := blk_below hZ hb6
                  have q0 : w6.cell? ⟨wc.heap.size + 2, 0, none⟩ = _ := (blk_cell hO 0).trans rfl
                  have q1 : w6.cell? ⟨wc.heap.size + 2, 1, none⟩ = _ := (blk_cell hO 1).trans rfl
                  have q2 : w6.cell? ⟨wc.heap.size + 2, 2, none⟩ = _ := (blk_cell hO 2).trans rfl
                  have z0 : w6.frozen? ⟨wc.heap.size + 2, 0, none⟩ = false := blk_frozen hO 0
                  have z1 : w6.frozen? ⟨wc.heap.size + 2, 1, none⟩ = false := blk_frozen hO 1
                  have z2 : w6.frozen? ⟨wc.heap.size + 2, 2, none⟩ = false := blk_frozen hO 2
                  (try go_back)
                  refine hK.out _ _ (HQ5.out _ (by repeat (first | assumption | exact Below.refl _ _ | refine below_drew1 ?_ | refine below_alloc ?_ _ | refine below_made ?_ _ | refine below_set ?_ (by first | exact Nat.le_refl _ | exact Nat.le_add_right _ _ | exact below_size (by assumption) | omega)))) (fun hHeld => ?_)
                  clear hK K
                  (try simp only [Act.put, List.setIfInBounds_toArray, List.set_cons_zero, List.set_cons_succ])
                  refine wpAnyH_take (i := 15) (v := .tuple #[.agg #[.int .i64 0, .slice E1 0 e1, .slice E2 0 e2], .int .i64 5]) (by simp only [List.getElem?_toArray, List.getElem?_cons_succ, List.getElem?_cons_zero]; rfl) (by kernel_rfl) (by kernel_rfl) (by kernel_rfl) (fun _ _ _ h => h) (Or.inl ⟨by rfl, by intro W hSw; go_simp⟩) (by assumption) ?_
                  (try simp only [Act.put, List.setIfInBounds_toArray, List.set_cons_zero, List.set_cons_succ])
                  refine wpAnyH_take (i := 16) (v := .agg #[.int .i64 0, .slice E1 0 e1, .slice E2 0 e2]) (by simp only [List.getElem?_toArray, List.getElem?_cons_succ, List.getElem?_cons_zero]; rfl) (by kernel_rfl) (by kernel_rfl) (by kernel_rfl) (fun _ _ _ h => h) (Or.inl ⟨by rfl, by intro W hSw; go_simp⟩) (by assumption) ?_
                  (try simp only [Act.put, List.setIfInBounds_toArray, List.set_cons_zero, List.set_cons_succ])
                  refine wpAnyH_take (i := 17) (v := .int .i64 5) (by simp only [List.getElem?_toArray, List.getElem?_cons_succ, List.getElem?_cons_zero]; rfl) (by kernel_rfl) (by kernel_rfl) (by kernel_rfl) (fun _ _ _ h => h) (Or.inl ⟨by rfl, by intro W hSw; go_simp⟩) (by assumption) ?_
                  (try simp only [Act.put, List.setIfInBounds_toArray, List.set_cons_zero, List.set_cons_succ])
                  refine wpAnyH_ready (rs := [19]) (by kernel_rfl) (by simp) ?_
                  refine AllReadyH.cons (by simp only [List.getElem?_toArray, List.getElem?_cons_succ, List.getElem?_cons_zero]; rfl) (fun K hK => ?_) ?_
                  · go_simp
                    refine hK.out _ _ (HQ5.out _ (by repeat (first | assumption | exact Below.refl _ _ | refine below_drew1 ?_ | refine below_alloc ?_ _ | refine below_made ?_ _ | refine below_set ?_ (by first | exact Nat.le_refl _ | exact Nat.le_add_right _ _ | exact below_size (by assumption) | omega)))) (fun hHeld => ?_)
                    clear hK K
                    (try simp only [Act.put, List.setIfInBounds_toArray, List.set_cons_zero, List.set_cons_succ])
                    refine wpAnyH_take (i := 20) (v := .int .i64 5) (by simp only [List.getElem?_toArray, List.getElem?_cons_succ, List.getElem?_cons_zero]; rfl) (by kernel_rfl) (by kernel_rfl) (by kernel_rfl) (fun _ _ _ h => h) (Or.inl ⟨by rfl, by intro W hSw; go_simp⟩) (by assumption) ?_
                    (try simp only [Act.put, List.setIfInBounds_toArray, List.set_cons_zero, List.set_cons_succ])
                    refine wpAnyH_done (by kernel_rfl) ?_ _
                    refine NoPanic.normal ?_
                    go_wp2_with fail
                    go_meet
                    exact ⟨rfl, (by repeat (first | assumption | exact Below.refl _ _ | refine below_drew1 ?_ | refine below_alloc ?_ _ | refine below_made ?_ _ | refine below_set ?_ (by first | exact Nat.le_refl _ | exact Nat.le_add_right _ _ | exact below_size (by assumption) | omega)))⟩
                  exact AllReadyH.nil
                exact AllReadyH.nil
              exact AllReadyH.nil
            exact AllReadyH.nil
          refine AllReadyH.cons (by simp only [List.getElem?_toArray, List.getElem?_cons_succ, List.getElem?_cons_zero]; rfl) (fun K hK => ?_) ?_
          · go_simp
            refine hK.out _ _ (HQ5.out _ (by repeat (first | assumption | exact Below.refl _ _ | refine below_drew1 ?_ | refine below_alloc ?_ _ | refine below_made ?_ _ | refine below_set ?_ (by first | exact Nat.le_refl _ | exact Nat.le_add_right _ _ | exact below_size (by assumption) | omega)))) (fun hHeld => ?_)
            clear hK K
            (try simp only [Act.put, List.setIfInBounds_toArray, List.set_cons_zero, List.set_cons_succ])
            refine wpAnyH_ready (rs := [4]) (by kernel_rfl) (by simp) ?_
            refine AllReadyH.cons (by simp only [List.getElem?_toArray, List.getElem?_cons_succ, List.getElem?_cons_zero]; rfl) (fun K hK => ?_) ?_
            · go_simp
              refine hK.out _ _ (HQ5.out _ (by repeat (first | assumption | exact Below.refl _ _ | refine below_drew1 ?_ | refine below_alloc ?_ _ | refine below_made ?_ _ | refine below_set ?_ (by first | exact Nat.le_refl _ | exact Nat.le_add_right _ _ | exact below_size (by assumption) | omega)))) (fun hHeld => ?_)
              clear hK K
              (try simp only [Act.put, List.setIfInBounds_toArray, List.set_cons_zero, List.set_cons_succ])
              refine wpAnyH_ready (rs := [5]) (by kernel_rfl) (by simp) ?_
              refine AllReadyH.cons (by simp only [List.getElem?_toArray, List.getElem?_cons_succ, List.getElem?_cons_zero]; rfl) (fun K hK => ?_) ?_
              · refine step_append_made wc _ rfl (.tmp 62) (.tmp 64) rfl b HPB.out _ _ more (by rfl) _ (by rfl) (by repeat (first | exact made_at b (by first | rfl | (simp [made_size]; done)) | refine MadeAt.drew ?_ | refine MadeAt.alloc ?_ _)) (t := 5) (by repeat (first | exact blk_new_at (by first | rfl | (simp [made_size]; done)) _ | refine blk_drew ?_ | refine blk_made ?_ _ | refine blk_alloc ?_ _)) (by first | exact Nat.le_refl _ | exact Nat.le_add_right _ _ | omega) (by repeat (first | assumption | exact Below.refl _ _ | refine below_drew1 ?_ | refine below_alloc ?_ _ | refine below_made ?_ _ | refine below_set ?_ (by first | exact Nat.le_refl _ | exact Nat.le_add_right _ _ | exact below_size (by assumption) | omega))) (by omega) bm HBM.out ?_
                intro A5 c5 w5 hC5 hc5 hb5 hk5
                have hZ : w5.heap[wc.heap.size + 1]? = some (.cells #[.int .i64 0, .slice none 0 0, .slice none 0 0] 25 (0, 0)) := hk5 _ _ (by omega) (by repeat (first | exact blk_new_at (by first | rfl | (simp [made_size]; done)) _ | refine blk_drew ?_ | refine blk_made ?_ _ | refine blk_alloc ?_ _))
                refine hK.out _ _ (HQ5.out _ (by repeat (first | assumption | exact Below.refl _ _ | refine below_drew1 ?_ | refine below_alloc ?_ _ | refine below_made ?_ _ | refine below_set ?_ (by first | exact Nat.le_refl _ | exact Nat.le_add_right _ _ | exact below_size (by assumption) | omega)))) (fun hHeld => ?_)
                clear hK K
                (try simp only [Act.put, List.setIfInBounds_toArray, List.set_cons_zero, List.set_cons_succ])
                refine wpAnyH_ready (rs := [14]) (by kernel_rfl) (by simp) ?_
                refine AllReadyH.cons (by simp only [List.getElem?_toArray, List.getElem?_cons_succ, List.getElem?_cons_zero]; rfl) (fun K hK => ?_) ?_
                · go_simp
                  go_at_call 12
                  refine (HGT5.out w5 A5 c5 (below_step (below_step HB3.out HBC.out) (by repeat (first | assumption | exact Below.refl _ _ | refine below_drew1 ?_ | refine below_alloc ?_ _ | refine below_made ?_ _ | refine below_set ?_ (by first | exact Nat.le_refl _ | exact Nat.le_add_right _ _ | exact below_size (by assumption) | omega)))) hc5 hC5).mono ?_
                  rintro e w6 ⟨E1, e1, E2, e2, rfl, hb6⟩
                  have hb6w : Below wc.heap.size wc w6 := below_step (by repeat (first | assumption | exact Below.refl _ _ | refine below_drew1 ?_ | refine below_alloc ?_ _ | refine below_made ?_ _ | refine below_set ?_ (by first | exact Nat.le_refl _ | exact Nat.le_add_right _ _ | exact below_size (by assumption) | omega))) hb6
                  have hO := blk_below hZ hb6
                  have q0 : w6.cell? ⟨wc.heap.size + 1, 0, none⟩ = _ := (blk_cell hO 0).trans rfl
                  have q1 : w6.cell? ⟨wc.heap.size + 1, 1, none⟩ = _ := (blk_cell hO 1).trans rfl
                  have q2 : w6.cell? ⟨wc.heap.size + 1, 2, none⟩ = _ := (blk_cell hO 2).trans rfl
                  have z0 : w6.frozen? ⟨wc.heap.size + 1, 0, none⟩ = false := blk_frozen hO 0
                  have z1 : w6.frozen? ⟨wc.heap.size + 1, 1, none⟩ = false := blk_frozen hO 1
                  have z2 : w6.frozen? ⟨wc.heap.size + 1, 2, none⟩ = false := blk_frozen hO 2
                  (try go_back)
                  refine hK.out _ _ (HQ5.out _ (by repeat (first | assumption | exact Below.refl _ _ | refine below_drew1 ?_ | refine below_alloc ?_ _ | refine below_made ?_ _ | refine below_set ?_ (by first | exact Nat.le_refl _ | exact Nat.le_add_right _ _ | exact below_size (by assumption) | omega)))) (fun hHeld => ?_)
                  clear hK K
                  (try simp only [Act.put, List.setIfInBounds_toArray, List.set_cons_zero, List.set_cons_succ])
                  refine wpAnyH_take (i := 15) (v := .tuple #[.agg #[.int .i64 0, .slice E1 0 e1, .slice E2 0 e2], .int .i64 5]) (by simp only [List.getElem?_toArray, List.getElem?_cons_succ, List.getElem?_cons_zero]; rfl) (by kernel_rfl) (by kernel_rfl) (by kernel_rfl) (fun _ _ _ h => h) (Or.inl ⟨by rfl, by intro W hSw; go_simp⟩) (by assumption) ?_
                  (try simp only [Act.put, List.setIfInBounds_toArray, List.set_cons_zero, List.set_cons_succ])
                  refine wpAnyH_take (i := 16) (v := .agg #[.int .i64 0, .slice E1 0 e1, .slice E2 0 e2]) (by simp only [List.getElem?_toArray, List.getElem?_cons_succ, List.getElem?_cons_zero]; rfl) (by kernel_rfl) (by kernel_rfl) (by kernel_rfl) (fun _ _ _ h => h) (Or.inl ⟨by rfl, by intro W hSw; go_simp⟩) (by assumption) ?_
                  (try simp only [Act.put, List.setIfInBounds_toArray, List.set_cons_zero, List.set_cons_succ])
                  refine wpAnyH_take (i := 17) (v := .int .i64 5) (by simp only [List.getElem?_toArray, List.getElem?_cons_succ, List.getElem?_cons_zero]; rfl) (by kernel_rfl) (by kernel_rfl) (by kernel_rfl) (fun _ _ _ h => h) (Or.inl ⟨by rfl, by intro W hSw; go_simp⟩) (by assumption) ?_
                  (try simp only [Act.put, List.setIfInBounds_toArray, List.set_cons_zero, List.set_cons_succ])
                  refine wpAnyH_ready (rs := [19]) (by kernel_rfl) (by simp) ?_
                  refine AllReadyH.cons (by simp only [List.getElem?_toArray, List.getElem?_cons_succ, List.getElem?_cons_zero]; rfl) (fun K hK => ?_) ?_
                  · go_simp
                    refine hK.out _ _ (HQ5.out _ (by repeat (first | assumption | exact Below.refl _ _ | refine below_drew1 ?_ | refine below_alloc ?_ _ | refine below_made ?_ _ | refine below_set ?_ (by first | exact Nat.le_refl _ | exact Nat.le_add_right _ _ | exact below_size (by assumption) | omega)))) (fun hHeld => ?_)
                    clear hK K
                    (try simp only [Act.put, List.setIfInBounds_toArray, List.set_cons_zero, List.set_cons_succ])
                    refine wpAnyH_take (i := 20) (v := .int .i64 5) (by simp only [List.getElem?_toArray, List.getElem?_cons_succ, List.getElem?_cons_zero]; rfl) (by kernel_rfl) (by kernel_rfl) (by kernel_rfl) (fun _ _ _ h => h) (Or.inl ⟨by rfl, by intro W hSw; go_simp⟩) (by assumption) ?_
                    (try simp only [Act.put, List.setIfInBounds_toArray, List.set_cons_zero, List.set_cons_succ])
                    refine wpAnyH_done (by kernel_rfl) ?_ _
                    refine NoPanic.normal ?_
                    go_wp2_with fail
                    go_meet
                    exact ⟨rfl, (by repeat (first | assumption | exact Below.refl _ _ | refine below_drew1 ?_ | refine below_alloc ?_ _ | refine below_made ?_ _ | refine below_set ?_ (by first | exact Nat.le_refl _ | exact Nat.le_add_right _ _ | exact below_size (by assumption) | omega)))⟩
                  exact AllReadyH.nil
                exact AllReadyH.nil
              exact AllReadyH.nil
            exact AllReadyH.nil
          exact AllReadyH.nil
        refine AllReadyH.cons (by simp only [List.getElem?_toArray, List.getElem?_cons_succ, List.getElem?_cons_zero]; rfl) (fun K hK => ?_) ?_
        · go_simp
          refine hK.out _ _ (HQ5.out _ (by repeat (first | assumption | exact Below.refl _ _ | refine below_drew1 ?_ | refine below_alloc ?_ _ | refine below_made ?_ _ | refine below_set ?_ (by first | exact Nat.le_refl _ | exact Nat.le_add_right _ _ | exact below_size (by assumption) | omega)))) (fun hHeld => ?_)
          clear hK K
          (try simp only [Act.put, List.setIfInBounds_toArray, List.set_cons_zero, List.set_cons_succ])
          refine wpAnyH_ready (rs := [2, 18]) (by kernel_rfl) (by simp) ?_
          refine AllReadyH.cons (by simp only [List.getElem?_toArray, List.getElem?_cons_succ, List.getElem?_cons_zero]; rfl) (fun K hK => ?_) ?_
          · go_simp
            refine hK.out _ _ (HQ5.out _ (by repeat (first | assumption | exact Below.refl _ _ | refine below_drew1 ?_ | refine below_alloc ?_ _ | refine below_made ?_ _ | refine below_set ?_ (by first | exact Nat.le_refl _ | exact Nat.le_add_right _ _ | exact below_size (by assumption) | omega)))) (fun hHeld => ?_)
            clear hK K
            (try simp only [Act.put, List.setIfInBounds_toArray, List.set_cons_zero, List.set_cons_succ])
            refine wpAnyH_ready (rs := [5, 18]) (by kernel_rfl) (by simp) ?_
            refine AllReadyH.cons (by simp only [List.getElem?_toArray, List.getElem?_cons_succ, List.getElem?_cons_zero]; rfl) (fun K hK => ?_) ?_
            · refine step_append_made wc _ rfl (.tmp 62) (.tmp 64) rfl b HPB.out _ _ more (by rfl) _ (by rfl) (by repeat (first | exact made_at b (by first | rfl | (simp [made_size]; done)) | refine MadeAt.drew ?_ | refine MadeAt.alloc ?_ _)) (t := 5) (by repeat (first | exact blk_new_at (by first | rfl | (simp [made_size]; done)) _ | refine blk_drew ?_ | refine blk_made ?_ _ | refine blk_alloc ?_ _)) (by first | exact Nat.le_refl _ | exact Nat.le_add_right _ _ | omega) (by repeat (first | assumption | exact Below.refl _ _ | refine below_drew1 ?_ | refine below_alloc ?_ _ | refine below_made ?_ _ | refine below_set ?_ (by first | exact Nat.le_refl _ | exact Nat.le_add_right _ _ | exact below_size (by assumption) | omega))) (by omega) bm HBM.out ?_
              intro A5 c5 w5 hC5 hc5 hb5 hk5
              refine hK.out _ _ (HQ5.out _ (by repeat (first | assumption | exact Below.refl _ _ | refine below_drew1 ?_ | refine below_alloc ?_ _ | refine below_made ?_ _ | refine below_set ?_ (by first | exact Nat.le_refl _ | exact Nat.le_add_right _ _ | exact below_size (by assumption) | omega)))) (fun hHeld => ?_)
              clear hK K
              (try simp only [Act.put, List.setIfInBounds_toArray, List.set_cons_zero, List.set_cons_succ])
              refine wpAnyH_ready (rs := [14, 18]) (by kernel_rfl) (by simp) ?_
              refine AllReadyH.cons (by simp only [List.getElem?_toArray, List.getElem?_cons_succ, List.getElem?_cons_zero]; rfl) (fun K hK => ?_) ?_
              · go_simp
                go_at_call 12
                refine (HGT5.out w5 A5 c5 (below_step (below_step HB3.out HBC.out) (by repeat (first | assumption | exact Below.refl _ _ | refine below_drew1 ?_ | refine below_alloc ?_ _ | refine below_made ?_ _ | refine below_set ?_ (by first | exact Nat.le_refl _ | exact Nat.le_add_right _ _ | exact below_size (by assumption) | omega)))) hc5 hC5).mono ?_
                rintro e w6 ⟨E1, e1, E2, e2, rfl, hb6⟩
                have hb6w : Below wc.heap.size wc w6 := below_step (by repeat (first | assumption | exact Below.refl _ _ | refine below_drew1 ?_ | refine below_alloc ?_ _ | refine below_made ?_ _ | refine below_set ?_ (by first | exact Nat.le_refl _ | exact Nat.le_add_right _ _ | exact below_size (by assumption) | omega))) hb6
                (try go_back)
                refine hK.out _ _ (HQ5.out _ (by repeat (first | assumption | exact Below.refl _ _ | refine below_drew1 ?_ | refine below_alloc ?_ _ | refine below_made ?_ _ | refine below_set ?_ (by first | exact Nat.le_refl _ | exact Nat.le_add_right _ _ | exact below_size (by assumption) | omega)))) (fun hHeld => ?_)
                clear hK K
                (try simp only [Act.put, List.setIfInBounds_toArray, List.set_cons_zero, List.set_cons_succ])
                refine wpAnyH_take (i := 15) (v := .tuple #[.agg #[.int .i64 0, .slice E1 0 e1, .slice E2 0 e2], .int .i64 5]) (by simp only [List.getElem?_toArray, List.getElem?_cons_succ, List.getElem?_cons_zero]; rfl) (by kernel_rfl) (by kernel_rfl) (by kernel_rfl) (fun _ _ _ h => h) (Or.inl ⟨by rfl, by intro W hSw; go_simp⟩) (by assumption) ?_
                (try simp only [Act.put, List.setIfInBounds_toArray, List.set_cons_zero, List.set_cons_succ])
                refine wpAnyH_take (i := 16) (v := .agg #[.int .i64 0, .slice E1 0 e1, .slice E2 0 e2]) (by simp only [List.getElem?_toArray, List.getElem?_cons_succ, List.getElem?_cons_zero]; rfl) (by kernel_rfl) (by kernel_rfl) (by kernel_rfl) (fun _ _ _ h => h) (Or.inl ⟨by rfl, by intro W hSw; go_simp⟩) (by assumption) ?_
                (try simp only [Act.put, List.setIfInBounds_toArray, List.set_cons_zero, List.set_cons_succ])
                refine wpAnyH_take (i := 17) (v := .int .i64 5) (by simp only [List.getElem?_toArray, List.getElem?_cons_succ, List.getElem?_cons_zero]; rfl) (by kernel_rfl) (by kernel_rfl) (by kernel_rfl) (fun _ _ _ h => h) (Or.inl ⟨by rfl, by intro W hSw; go_simp⟩) (by assumption) ?_
                (try simp only [Act.put, List.setIfInBounds_toArray, List.set_cons_zero, List.set_cons_succ])
                refine wpAnyH_ready (rs := [18]) (by kernel_rfl) (by simp) ?_
                refine AllReadyH.cons (by simp only [List.getElem?_toArray, List.getElem?_cons_succ, List.getElem?_cons_zero]; rfl) (fun K hK => ?_) ?_
                · go_simp
                  refine hK.out _ _ (HQ5.out _ (by repeat (first | assumption | exact Below.refl _ _ | refine below_drew1 ?_ | refine below_alloc ?_ _ | refine below_made ?_ _ | refine below_set ?_ (by first | exact Nat.le_refl _ | exact Nat.le_add_right _ _ | exact below_size (by assumption) | omega)))) (fun hHeld => ?_)
                  clear hK K
                  (try simp only [Act.put, List.setIfInBounds_toArray, List.set_cons_zero, List.set_cons_succ])
                  refine wpAnyH_ready (rs := [19]) (by kernel_rfl) (by simp) ?_
                  refine AllReadyH.cons (by simp only [List.getElem?_toArray, List.getElem?_cons_succ, List.getElem?_cons_zero]; rfl) (fun K hK => ?_) ?_
                  · go_simp
                    refine hK.out _ _ (HQ5.out _ (by repeat (first | assumption | exact Below.refl _ _ | refine below_drew1 ?_ | refine below_alloc ?_ _ | refine below_made ?_ _ | refine below_set ?_ (by first | exact Nat.le_refl _ | exact Nat.le_add_right _ _ | exact below_size (by assumption) | omega)))) (fun hHeld => ?_)
                    clear hK K
                    (try simp only [Act.put, List.setIfInBounds_toArray, List.set_cons_zero, List.set_cons_succ])
                    refine wpAnyH_take (i := 20) (v := .int .i64 5) (by simp only [List.getElem?_toArray, List.getElem?_cons_succ, List.getElem?_cons_zero]; rfl) (by kernel_rfl) (by kernel_rfl) (by kernel_rfl) (fun _ _ _ h => h) (Or.inl ⟨by rfl, by intro W hSw; go_simp⟩) (by assumption) ?_
                    (try simp only [Act.put, List.setIfInBounds_toArray, List.set_cons_zero, List.set_cons_succ])
                    refine wpAnyH_done (by kernel_rfl) ?_ _
                    refine NoPanic.normal ?_
                    go_wp2_with fail
                    go_meet
                    exact ⟨rfl, (by repeat (first | assumption | exact Below.refl _ _ | refine below_drew1 ?_ | refine below_alloc ?_ _ | refine below_made ?_ _ | refine below_set ?_ (by first | exact Nat.le_refl _ | exact Nat.le_add_right _ _ | exact below_size (by assumption) | omega)))⟩
                  exact AllReadyH.nil
                exact AllReadyH.nil
              refine AllReadyH.cons (by simp only [List.getElem?_toArray, List.getElem?_cons_succ, List.getElem?_cons_zero]; rfl) (fun K hK => ?_) ?_
              · go_simp
                refine hK.out _ _ (HQ5.out _ (by repeat (first | assumption | exact Below.refl _ _ | refine below_drew1 ?_ | refine below_alloc ?_ _ | refine below_made ?_ _ | refine below_set ?_ (by first | exact Nat.le_refl _ | exact Nat.le_add_right _ _ | exact below_size (by assumption) | omega)))) (fun hHeld => ?_)
                clear hK K
                (try simp only [Act.put, List.setIfInBounds_toArray, List.set_cons_zero, List.set_cons_succ])
                refine wpAnyH_ready (rs := [14]) (by kernel_rfl) (by simp) ?_
                refine AllReadyH.cons (by simp only [List.getElem?_toArray, List.getElem?_cons_succ, List.getElem?_cons_zero]; rfl) (fun K hK => ?_) ?_
                · go_simp
                  go_at_call 12
                  refine (HGT5.out (World.alloc w5 (.cells #[.int .i64 0, .slice none 0 0, .slice none 0 0] 25)) A5 c5 (below_step (below_step HB3.out HBC.out) (by repeat (first | assumption | exact Below.refl _ _ | refine below_drew1 ?_ | refine below_alloc ?_ _ | refine below_made ?_ _ | refine below_set ?_ (by first | exact Nat.le_refl _ | exact Nat.le_add_right _ _ | exact below_size (by assumption) | omega)))) hc5 (Kd.C_alloc hC5 _)).mono ?_
                  rintro e w6 ⟨E1, e1, E2, e2, rfl, hb6⟩
                  have hb6w : Below wc.heap.size wc w6 := below_step (by repeat (first | assumption | exact Below.refl _ _ | refine below_drew1 ?_ | refine below_alloc ?_ _ | refine below_made ?_ _ | refine below_set ?_ (by first | exact Nat.le_refl _ | exact Nat.le_add_right _ _ | exact below_size (by assumption) | omega))) hb6
                  have hO := blk_below (blk_new w5 (.cells #[.int .i64 0, .slice none 0 0, .slice none 0 0] 25)) hb6
                  have q0 : w6.cell? ⟨w5.heap.size, 0, none⟩ = _ := (blk_cell hO 0).trans rfl
                  have q1 : w6.cell? ⟨w5.heap.size, 1, none⟩ = _ := (blk_cell hO 1).trans rfl
                  have q2 : w6.cell? ⟨w5.heap.size, 2, none⟩ = _ := (blk_cell hO 2).trans rfl
                  have z0 : w6.frozen? ⟨w5.heap.size, 0, none⟩ = false := blk_frozen hO 0
                  have z1 : w6.frozen? ⟨w5.heap.size, 1, none⟩ = false := blk_frozen hO 1
                  have z2 : w6.frozen? ⟨w5.heap.size, 2, none⟩ = false := blk_frozen hO 2
                  (try go_back)
                  refine hK.out _ _ (HQ5.out _ (by repeat (first | assumption | exact Below.refl _ _ | refine below_drew1 ?_ | refine below_alloc ?_ _ | refine below_made ?_ _ | refine below_set ?_ (by first | exact Nat.le_refl _ | exact Nat.le_add_right _ _ | exact below_size (by assumption) | omega)))) (fun hHeld => ?_)
                  clear hK K
                  (try simp only [Act.put, List.setIfInBounds_toArray, List.set_cons_zero, List.set_cons_succ])
                  refine wpAnyH_take (i := 15) (v := .tuple #[.agg #[.int .i64 0, .slice E1 0 e1, .slice E2 0 e2], .int .i64 5]) (by simp only [List.getElem?_toArray, List.getElem?_cons_succ, List.getElem?_cons_zero]; rfl) (by kernel_rfl) (by kernel_rfl) (by kernel_rfl) (fun _ _ _ h => h) (Or.inl ⟨by rfl, by intro W hSw; go_simp⟩) (by assumption) ?_
                  (try simp only [Act.put, List.setIfInBounds_toArray, List.set_cons_zero, List.set_cons_succ])
                  refine wpAnyH_take (i := 16) (v := .agg #[.int .i64 0, .slice E1 0 e1, .slice E2 0 e2]) (by simp only [List.getElem?_toArray, List.getElem?_cons_succ, List.getElem?_cons_zero]; rfl) (by kernel_rfl) (by kernel_rfl) (by kernel_rfl) (fun _ _ _ h => h) (Or.inl ⟨by rfl, by intro W hSw; go_simp⟩) (by assumption) ?_
                  (try simp only [Act.put, List.setIfInBounds_toArray, List.set_cons_zero, List.set_cons_succ])
                  refine wpAnyH_take (i := 17) (v := .int .i64 5) (by simp only [List.getElem?_toArray, List.getElem?_cons_succ, List.getElem?_cons_zero]; rfl) (by kernel_rfl) (by kernel_rfl) (by kernel_rfl) (fun _ _ _ h => h) (Or.inl ⟨by rfl, by intro W hSw; go_simp⟩) (by assumption) ?_
                  (try simp only [Act.put, List.setIfInBounds_toArray, List.set_cons_zero, List.set_cons_succ])
                  refine wpAnyH_ready (rs := [19]) (by kernel_rfl) (by simp) ?_
                  refine AllReadyH.cons (by simp only [List.getElem?_toArray, List.getElem?_cons_succ, List.getElem?_cons_zero]; rfl) (fun K hK => ?_) ?_
                  · go_simp
                    refine hK.out _ _ (HQ5.out _ (by repeat (first | assumption | exact Below.refl _ _ | refine below_drew1 ?_ | refine below_alloc ?_ _ | refine below_made ?_ _ | refine below_set ?_ (by first | exact Nat.le_refl _ | exact Nat.le_add_right _ _ | exact below_size (by assumption) | omega)))) (fun hHeld => ?_)
                    clear hK K
                    (try simp only [Act.put, List.setIfInBounds_toArray, List.set_cons_zero, List.set_cons_succ])
                    refine wpAnyH_take (i := 20) (v := .int .i64 5) (by simp only [List.getElem?_toArray, List.getElem?_cons_succ, List.getElem?_cons_zero]; rfl) (by kernel_rfl) (by kernel_rfl) (by kernel_rfl) (fun _ _ _ h => h) (Or.inl ⟨by rfl, by intro W hSw; go_simp⟩) (by assumption) ?_
                    (try simp only [Act.put, List.setIfInBounds_toArray, List.set_cons_zero, List.set_cons_succ])
                    refine wpAnyH_done (by kernel_rfl) ?_ _
                    refine NoPanic.normal ?_
                    go_wp2_with fail
                    go_meet
                    exact ⟨rfl, (by repeat (first | assumption | exact Below.refl _ _ | refine below_drew1 ?_ | refine below_alloc ?_ _ | refine below_made ?_ _ | refine below_set ?_ (by first | exact Nat.le_refl _ | exact Nat.le_add_right _ _ | exact below_size (by assumption) | omega)))⟩
                  exact AllReadyH.nil
                exact AllReadyH.nil
              exact AllReadyH.nil
            refine AllReadyH.cons (by simp only [List.getElem?_toArray, List.getElem?_cons_succ, List.getElem?_cons_zero]; rfl) (fun K hK => ?_) ?_
            · go_simp
              refine hK.out _ _ (HQ5.out _ (by repeat (first | assumption | exact Below.refl _ _ | refine below_drew1 ?_ | refine below_alloc ?_ _ | refine below_made ?_ _ | refine below_set ?_ (by first | exact Nat.le_refl _ | exact Nat.le_add_right _ _ | exact below_size (by assumption) | omega)))) (fun hHeld => ?_)
              clear hK K
              (try simp only [Act.put, List.setIfInBounds_toArray, List.set_cons_zero, List.set_cons_succ])
              refine wpAnyH_ready (rs := [5]) (by kernel_rfl) (by simp) ?_
              refine AllReadyH.cons (by simp only [List.getElem?_toArray, List.getElem?_cons_succ, List.getElem?_cons_zero]; rfl) (fun K hK => ?_) ?_
              · refine step_append_made wc _ rfl (.tmp 62) (.tmp 64) rfl b HPB.out _ _ more (by rfl) _ (by rfl) (by repeat (first | exact made_at b (by first | rfl | (simp [made_size]; done)) | refine MadeAt.drew ?_ | refine MadeAt.alloc ?_ _)) (t := 5) (by repeat (first | exact blk_new_at (by first | rfl | (simp [made_size]; done)) _ | refine blk_drew ?_ | refine blk_made ?_ _ | refine blk_alloc ?_ _)) (by first | exact Nat.le_refl _ | exact Nat.le_add_right _ _ | omega) (by repeat (first | assumption | exact Below.refl _ _ | refine below_drew1 ?_ | refine below_alloc ?_ _ | refine below_made ?_ _ | refine below_set ?_ (by first | exact Nat.le_refl _ | exact Nat.le_add_right _ _ | exact below_size (by assumption) | omega))) (by omega) bm HBM.out ?_
                intro A5 c5 w5 hC5 hc5 hb5 hk5
                have hZ : w5.heap[wc.heap.size + 2]? = some (.cells #[.int .i64 0, .slice none 0 0, .slice none 0 0] 25 (0, 0)) := hk5 _ _ (by omega) (by repeat (first | exact blk_new_at (by first | rfl | (simp [made_size]; done)) _ | refine blk_drew ?_ | refine blk_made ?_ _ | refine blk_alloc ?_ _))
                refine hK.out _ _ (HQ5.out _ (by repeat (first | assumption | exact Below.refl _ _ | refine below_drew1 ?_ | refine below_alloc ?_ _ | refine below_made ?_ _ | refine below_set ?_ (by first | exact Nat.le_refl _ | exact Nat.le_add_right _ _ | exact below_size (by assumption) | omega)))) (fun hHeld => ?_)
                clear hK K
                (try simp only [Act.put, List.setIfInBounds_toArray, List.set_cons_zero, List.set_cons_succ])
                refine wpAnyH_ready (rs := [14]) (by kernel_rfl) (by simp) ?_
                refine AllReadyH.cons (by simp only [List.getElem?_toArray, List.getElem?_cons_succ, List.getElem?_cons_zero]; rfl) (fun K hK => ?_) ?_
                · go_simp
                  go_at_call 12
                  refine (HGT5.out w5 A5 c5 (below_step (below_step HB3.out HBC.out) (by repeat (first | assumption | exact Below.refl _ _ | refine below_drew1 ?_ | refine below_alloc ?_ _ | refine below_made ?_ _ | refine below_set ?_ (by first | exact Nat.le_refl _ | exact Nat.le_add_right _ _ | exact below_size (by assumption) | omega)))) hc5 hC5).mono ?_
                  rintro e w6 ⟨E1, e1, E2, e2, rfl, hb6⟩
                  have hb6w : Below wc.heap.size wc w6 := below_step (by repeat (first | assumption | exact Below.refl _ _ | refine below_drew1 ?_ | refine below_alloc ?_ _ | refine below_made ?_ _ | refine below_set ?_ (by first | exact Nat.le_refl _ | exact Nat.le_add_right _ _ | exact below_size (by assumption) | omega))) hb6
                  have hO := blk_below hZ hb6
                  have q0 : w6.cell? ⟨wc.heap.size + 2, 0, none⟩ = _ := (blk_cell hO 0).trans rfl
                  have q1 : w6.cell? ⟨wc.heap.size + 2, 1, none⟩ = _ := (blk_cell hO 1).trans rfl
                  have q2 : w6.cell? ⟨wc.heap.size + 2, 2, none⟩ = _ := (blk_cell hO 2).trans rfl
                  have z0 : w6.frozen? ⟨wc.heap.size + 2, 0, none⟩ = false := blk_frozen hO 0
                  have z1 : w6.frozen? ⟨wc.heap.size + 2, 1, none⟩ = false := blk_frozen hO 1
                  have z2 : w6.frozen? ⟨wc.heap.size + 2, 2, none⟩ = false := blk_frozen hO 2
                  (try go_back)
                  refine hK.out _ _ (HQ5.out _ (by repeat (first | assumption | exact Below.refl _ _ | refine below_drew1 ?_ | refine below_alloc ?_ _ | refine below_made ?_ _ | refine below_set ?_ (by first | exact Nat.le_refl _ | exact Nat.le_add_right _ _ | exact below_size (by assumption) | omega)))) (fun hHeld => ?_)
                  clear hK K
                  (try simp only [Act.put, List.setIfInBounds_toArray, List.set_cons_zero, List.set_cons_succ])
                  refine wpAnyH_take (i := 15) (v := .tuple #[.agg #[.int .i64 0, .slice E1 0 e1, .slice E2 0 e2], .int .i64 5]) (by simp only [List.getElem?_toArray, List.getElem?_cons_succ, List.getElem?_cons_zero]; rfl) (by kernel_rfl) (by kernel_rfl) (by kernel_rfl) (fun _ _ _ h => h) (Or.inl ⟨by rfl, by intro W hSw; go_simp⟩) (by assumption) ?_
                  (try simp only [Act.put, List.setIfInBounds_toArray, List.set_cons_zero, List.set_cons_succ])
                  refine wpAnyH_take (i := 16) (v := .agg #[.int .i64 0, .slice E1 0 e1, .slice E2 0 e2]) (by simp only [List.getElem?_toArray, List.getElem?_cons_succ, List.getElem?_cons_zero]; rfl) (by kernel_rfl) (by kernel_rfl) (by kernel_rfl) (fun _ _ _ h => h) (Or.inl ⟨by rfl, by intro W hSw; go_simp⟩) (by assumption) ?_
                  (try simp only [Act.put, List.setIfInBounds_toArray, List.set_cons_zero, List.set_cons_succ])
                  refine wpAnyH_take (i := 17) (v := .int .i64 5) (by simp only [List.getElem?_toArray, List.getElem?_cons_succ, List.getElem?_cons_zero]; rfl) (by kernel_rfl) (by kernel_rfl) (by kernel_rfl) (fun _ _ _ h => h) (Or.inl ⟨by rfl, by intro W hSw; go_simp⟩) (by assumption) ?_
                  (try simp only [Act.put, List.setIfInBounds_toArray, List.set_cons_zero, List.set_cons_succ])
                  refine wpAnyH_ready (rs := [19]) (by kernel_rfl) (by simp) ?_
                  refine AllReadyH.cons (by simp only [List.getElem?_toArray, List.getElem?_cons_succ, List.getElem?_cons_zero]; rfl) (fun K hK => ?_) ?_
                  · go_simp
                    refine hK.out _ _ (HQ5.out _ (by repeat (first | assumption | exact Below.refl _ _ | refine below_drew1 ?_ | refine below_alloc ?_ _ | refine below_made ?_ _ | refine below_set ?_ (by first | exact Nat.le_refl _ | exact Nat.le_add_right _ _ | exact below_size (by assumption) | omega)))) (fun hHeld => ?_)
                    clear hK K
                    (try simp only [Act.put, List.setIfInBounds_toArray, List.set_cons_zero, List.set_cons_succ])
                    refine wpAnyH_take (i := 20) (v := .int .i64 5) (by simp only [List.getElem?_toArray, List.getElem?_cons_succ, List.getElem?_cons_zero]; rfl) (by kernel_rfl) (by kernel_rfl) (by kernel_rfl) (fun _ _ _ h => h) (Or.inl ⟨by rfl, by intro W hSw; go_simp⟩) (by assumption) ?_
                    (try simp only [Act.put, List.setIfInBounds_toArray, List.set_cons_zero, List.set_cons_succ])
                    refine wpAnyH_done (by kernel_rfl) ?_ _
                    refine NoPanic.normal ?_
                    go_wp2_with fail
                    go_meet
                    exact ⟨rfl, (by repeat (first | assumption | exact Below.refl _ _ | refine below_drew1 ?_ | refine below_alloc ?_ _ | refine below_made ?_ _ | refine below_set ?_ (by first | exact Nat.le_refl _ | exact Nat.le_add_right _ _ | exact below_size (by assumption) | omega)))⟩
                  exact AllReadyH.nil
                exact AllReadyH.nil
              exact AllReadyH.nil
            exact AllReadyH.nil
          refine AllReadyH.cons (by simp only [List.getElem?_toArray, List.getElem?_cons_succ, List.getElem?_cons_zero]; rfl) (fun K hK => ?_) ?_
          · go_simp
            refine hK.out _ _ (HQ5.out _ (by repeat (first | assumption | exact Below.refl _ _ | refine below_drew1 ?_ | refine below_alloc ?_ _ | refine below_made ?_ _ | refine below_set ?_ (by first | exact Nat.le_refl _ | exact Nat.le_add_right _ _ | exact below_size (by assumption) | omega)))) (fun hHeld => ?_)
            clear hK K
            (try simp only [Act.put, List.setIfInBounds_toArray, List.set_cons_zero, List.set_cons_succ])
            refine wpAnyH_ready (rs := [2]) (by kernel_rfl) (by simp) ?_
            refine AllReadyH.cons (by simp only [List.getElem?_toArray, List.getElem?_cons_succ, List.getElem?_cons_zero]; rfl) (fun K hK => ?_) ?_
            · go_simp
              refine hK.out _ _ (HQ5.out _ (by repeat (first | assumption | exact Below.refl _ _ | refine below_drew1 ?_ | refine below_alloc ?_ _ | refine below_made ?_ _ | refine below_set ?_ (by first | exact Nat.le_refl _ | exact Nat.le_add_right _ _ | exact below_size (by assumption) | omega)))) (fun hHeld => ?_)
              clear hK K
              (try simp only [Act.put, List.setIfInBounds_toArray, List.set_cons_zero, List.set_cons_succ])
              refine wpAnyH_ready (rs := [5]) (by kernel_rfl) (by simp) ?_
              refine AllReadyH.cons (by simp only [List.getElem?_toArray, List.getElem?_cons_succ, List.getElem?_cons_zero]; rfl) (fun K hK => ?_) ?_
              · refine step_append_made wc _ rfl (.tmp 62) (.tmp 64) rfl b HPB.out _ _ more (by rfl) _ (by rfl) (by repeat (first | exact made_at b (by first | rfl | (simp [made_size]; done)) | refine MadeAt.drew ?_ | refine MadeAt.alloc ?_ _)) (t := 5) (by repeat (first | exact blk_new_at (by first | rfl | (simp [made_size]; done)) _ | refine blk_drew ?_ | refine blk_made ?_ _ | refine blk_alloc ?_ _)) (by first | exact Nat.le_refl _ | exact Nat.le_add_right _ _ | omega) (by repeat (first | assumption | exact Below.refl _ _ | refine below_drew1 ?_ | refine below_alloc ?_ _ | refine below_made ?_ _ | refine below_set ?_ (by first | exact Nat.le_refl _ | exact Nat.le_add_right _ _ | exact below_size (by assumption) | omega))) (by omega) bm HBM.out ?_
                intro A5 c5 w5 hC5 hc5 hb5 hk5
                have hZ : w5.heap[wc.heap.size + 1]? = some (.cells #[.int .i64 0, .slice none 0 0, .slice none 0 0] 25 (0, 0)) := hk5 _ _ (by omega) (by repeat (first | exact blk_new_at (by first | rfl | (simp [made_size]; done)) _ | refine blk_drew ?_ | refine blk_made ?_ _ | refine blk_alloc ?_ _))
                refine hK.out _ _ (HQ5.out _ (by repeat (first | assumption | exact Below.refl _ _ | refine below_drew1 ?_ | refine below_alloc ?_ _ | refine below_made ?_ _ | refine below_set ?_ (by first | exact Nat.le_refl _ | exact Nat.le_add_right _ _ | exact below_size (by assumption) | omega)))) (fun hHeld => ?_)
                clear hK K
                (try simp only [Act.put, List.setIfInBounds_toArray, List.set_cons_zero, List.set_cons_succ])
                refine wpAnyH_ready (rs := [14]) (by kernel_rfl) (by simp) ?_
                refine AllReadyH.cons (by simp only [List.getElem?_toArray, List.getElem?_cons_succ, List.getElem?_cons_zero]; rfl) (fun K hK => ?_) ?_
                · go_simp
                  go_at_call 12
                  refine (HGT5.out w5 A5 c5 (below_step (below_step HB3.out HBC.out) (by repeat (first | assumption | exact Below.refl _ _ | refine below_drew1 ?_ | refine below_alloc ?_ _ | refine below_made ?_ _ | refine below_set ?_ (by first | exact Nat.le_refl _ | exact Nat.le_add_right _ _ | exact below_size (by assumption) | omega)))) hc5 hC5).mono ?_
                  rintro e w6 ⟨E1, e1, E2, e2, rfl, hb6⟩
                  have hb6w : Below wc.heap.size wc w6 := below_step (by repeat (first | assumption | exact Below.refl _ _ | refine below_drew1 ?_ | refine below_alloc ?_ _ | refine below_made ?_ _ | refine below_set ?_ (by first | exact Nat.le_refl _ | exact Nat.le_add_right _ _ | exact below_size (by assumption) | omega))) hb6
                  have hO := blk_below hZ hb6
                  have q0 : w6.cell? ⟨wc.heap.size + 1, 0, none⟩ = _ := (blk_cell hO 0).trans rfl
                  have q1 : w6.cell? ⟨wc.heap.size + 1, 1, none⟩ = _ := (blk_cell hO 1).trans rfl
                  have q2 : w6.cell? ⟨wc.heap.size + 1, 2, none⟩ = _ := (blk_cell hO 2).trans rfl
                  have z0 : w6.frozen? ⟨wc.heap.size + 1, 0, none⟩ = false := blk_frozen hO 0
                  have z1 : w6.frozen? ⟨wc.heap.size + 1, 1, none⟩ = false := blk_frozen hO 1
                  have z2 : w6.frozen? ⟨wc.heap.size + 1, 2, none⟩ = false := blk_frozen hO 2
                  (try go_back)
                  refine hK.out _ _ (HQ5.out _ (by repeat (first | assumption | exact Below.refl _ _ | refine below_drew1 ?_ | refine below_alloc ?_ _ | refine below_made ?_ _ | refine below_set ?_ (by first | exact Nat.le_refl _ | exact Nat.le_add_right _ _ | exact below_size (by assumption) | omega)))) (fun hHeld => ?_)
                  clear hK K
                  (try simp only [Act.put, List.setIfInBounds_toArray, List.set_cons_zero, List.set_cons_succ])
                  refine wpAnyH_take (i := 15) (v := .tuple #[.agg #[.int .i64 0, .slice E1 0 e1, .slice E2 0 e2], .int .i64 5]) (by simp only [List.getElem?_toArray, List.getElem?_cons_succ, List.getElem?_cons_zero]; rfl) (by kernel_rfl) (by kernel_rfl) (by kernel_rfl) (fun _ _ _ h => h) (Or.inl ⟨by rfl, by intro W hSw; go_simp⟩) (by assumption) ?_
                  (try simp only [Act.put, List.setIfInBounds_toArray, List.set_cons_zero, List.set_cons_succ])
                  refine wpAnyH_take (i := 16) (v := .agg #[.int .i64 0, .slice E1 0 e1, .slice E2 0 e2]) (by simp only [List.getElem?_toArray, List.getElem?_cons_succ, List.getElem?_cons_zero]; rfl) (by kernel_rfl) (by kernel_rfl) (by kernel_rfl) (fun _ _ _ h => h) (Or.inl ⟨by rfl, by intro W hSw; go_simp⟩) (by assumption) ?_
                  (try simp only [Act.put, List.setIfInBounds_toArray, List.set_cons_zero, List.set_cons_succ])
                  refine wpAnyH_take (i := 17) (v := .int .i64 5) (by simp only [List.getElem?_toArray, List.getElem?_cons_succ, List.getElem?_cons_zero]; rfl) (by kernel_rfl) (by kernel_rfl) (by kernel_rfl) (fun _ _ _ h => h) (Or.inl ⟨by rfl, by intro W hSw; go_simp⟩) (by assumption) ?_
                  (try simp only [Act.put, List.setIfInBounds_toArray, List.set_cons_zero, List.set_cons_succ])
                  refine wpAnyH_ready (rs := [19]) (by kernel_rfl) (by simp) ?_
                  refine AllReadyH.cons (by simp only [List.getElem?_toArray, List.getElem?_cons_succ, List.getElem?_cons_zero]; rfl) (fun K hK => ?_) ?_
                  · go_simp
                    refine hK.out _ _ (HQ5.out _ (by repeat (first | assumption | exact Below.refl _ _ | refine below_drew1 ?_ | refine below_alloc ?_ _ | refine below_made ?_ _ | refine below_set ?_ (by first | exact Nat.le_refl _ | exact Nat.le_add_right _ _ | exact below_size (by assumption) | omega)))) (fun hHeld => ?_)
                    clear hK K
                    (try simp only [Act.put, List.setIfInBounds_toArray, List.set_cons_zero, List.set_cons_succ])
                    refine wpAnyH_take (i := 20) (v := .int .i64 5) (by simp only [List.getElem?_toArray, List.getElem?_cons_succ, List.getElem?_cons_zero]; rfl) (by kernel_rfl) (by kernel_rfl) (by kernel_rfl) (fun _ _ _ h => h) (Or.inl ⟨by rfl, by intro W hSw; go_simp⟩) (by assumption) ?_
                    (try simp only [Act.put, List.setIfInBounds_toArray, List.set_cons_zero, List.set_cons_succ])
                    refine wpAnyH_done (by kernel_rfl) ?_ _
                    refine NoPanic.normal ?_
                    go_wp2_with fail
                    go_meet
                    exact ⟨rfl, (by repeat (first | assumption | exact Below.refl _ _ | refine below_drew1 ?_ | refine below_alloc ?_ _ | refine below_made ?_ _ | refine below_set ?_ (by first | exact Nat.le_refl _ | exact Nat.le_add_right _ _ | exact below_size (by assumption) | omega)))⟩
                  exact AllReadyH.nil
                exact AllReadyH.nil
              exact AllReadyH.nil
            exact AllReadyH.nil
          exact AllReadyH.nil
        refine AllReadyH.cons (by simp only [List.getElem?_toArray, List.getElem?_cons_succ, List.getElem?_cons_zero]; rfl) (fun K hK => ?_) ?_
        · go_simp
          refine hK.out _ _ (HQ5.out _ (by repeat (first | assumption | exact Below.refl _ _ | refine below_drew1 ?_ | refine below_alloc ?_ _ | refine below_made ?_ _ | refine below_set ?_ (by first | exact Nat.le_refl _ | exact Nat.le_add_right _ _ | exact below_size (by assumption) | omega)))) (fun hHeld => ?_)
          clear hK K
          (try simp only [Act.put, List.setIfInBounds_toArray, List.set_cons_zero, List.set_cons_succ])
          refine wpAnyH_ready (rs := [2, 4]) (by kernel_rfl) (by simp) ?_
          refine AllReadyH.cons (by simp only [List.getElem?_toArray, List.getElem?_cons_succ, List.getElem?_cons_zero]; rfl) (fun K hK => ?_) ?_
          · go_simp
            refine hK.out _ _ (HQ5.out _ (by repeat (first | assumption | exact Below.refl _ _ | refine below_drew1 ?_ | refine below_alloc ?_ _ | refine below_made ?_ _ | refine below_set ?_ (by first | exact Nat.le_refl _ | exact Nat.le_add_right _ _ | exact below_size (by assumption) | omega)))) (fun hHeld => ?_)
            clear hK K
            (try simp only [Act.put, List.setIfInBounds_toArray, List.set_cons_zero, List.set_cons_succ])
            refine wpAnyH_ready (rs := [4]) (by kernel_rfl) (by simp) ?_
            refine AllReadyH.cons (by simp only [List.getElem?_toArray, List.getElem?_cons_succ, List.getElem?_cons_zero]; rfl) (fun K hK => ?_) ?_
            · go_simp
              refine hK.out _ _ (HQ5.out _ (by repeat (first | assumption | exact Below.refl _ _ | refine below_drew1 ?_ | refine below_alloc ?_ _ | refine below_made ?_ _ | refine below_set ?_ (by first | exact Nat.le_refl _ | exact Nat.le_add_right _ _ | exact below_size (by assumption) | omega)))) (fun hHeld => ?_)
              clear hK K
              (try simp only [Act.put, List.setIfInBounds_toArray, List.set_cons_zero, List.set_cons_succ])
              refine wpAnyH_ready (rs := [5]) (by kernel_rfl) (by simp) ?_
              refine AllReadyH.cons (by simp only [List.getElem?_toArray, List.getElem?_cons_succ, List.getElem?_cons_zero]; rfl) (fun K hK => ?_) ?_
              · refine step_append_made wc _ rfl (.tmp 62) (.tmp 64) rfl b HPB.out _ _ more (by rfl) _ (by rfl) (by repeat (first | exact made_at b (by first | rfl | (simp [made_size]; done)) | refine MadeAt.drew ?_ | refine MadeAt.alloc ?_ _)) (t := 5) (by repeat (first | exact blk_new_at (by first | rfl | (simp [made_size]; done)) _ | refine blk_drew ?_ | refine blk_made ?_ _ | refine blk_alloc ?_ _)) (by first | exact Nat.le_refl _ | exact Nat.le_add_right _ _ | omega) (by repeat (first | assumption | exact Below.refl _ _ | refine below_drew1 ?_ | refine below_alloc ?_ _ | refine below_made ?_ _ | refine below_set ?_ (by first | exact Nat.le_refl _ | exact Nat.le_add_right _ _ | exact below_size (by assumption) | omega))) (by omega) bm HBM.out ?_
                intro A5 c5 w5 hC5 hc5 hb5 hk5
                have hZ : w5.heap[wc.heap.size + 0]? = some (.cells #[.int .i64 0, .slice none 0 0, .slice none 0 0] 25 (0, 0)) := hk5 _ _ (by omega) (by repeat (first | exact blk_new_at (by first | rfl | (simp [made_size]; done)) _ | refine blk_drew ?_ | refine blk_made ?_ _ | refine blk_alloc ?_ _))
                refine hK.out _ _ (HQ5.out _ (by repeat (first | assumption | exact Below.refl _ _ | refine below_drew1 ?_ | refine below_alloc ?_ _ | refine below_made ?_ _ | refine below_set ?_ (by first | exact Nat.le_refl _ | exact Nat.le_add_right _ _ | exact below_size (by assumption) | omega)))) (fun hHeld => ?_)
                clear hK K
                (try simp only [Act.put, List.setIfInBounds_toArray, List.set_cons_zero, List.set_cons_succ])
                refine wpAnyH_ready (rs := [14]) (by kernel_rfl) (by simp) ?_
                refine AllReadyH.cons (by simp only [List.getElem?_toArray, List.getElem?_cons_succ, List.getElem?_cons_zero]; rfl) (fun K hK => ?_) ?_
                · go_simp
                  go_at_call 12
                  refine (HGT5.out w5 A5 c5 (below_step (below_step HB3.out HBC.out) (by repeat (first | assumption | exact Below.refl _ _ | refine below_drew1 ?_ | refine below_alloc ?_ _ | refine below_made ?_ _ | refine below_set ?_ (by first | exact Nat.le_refl _ | exact Nat.le_add_right _ _ | exact below_size (by assumption) | omega)))) hc5 hC5).mono ?_
                  rintro e w6 ⟨E1, e1, E2, e2, rfl, hb6⟩
                  have hb6w : Below wc.heap.size wc w6 := below_step (by repeat (first | assumption | exact Below.refl _ _ | refine below_drew1 ?_ | refine below_alloc ?_ _ | refine below_made ?_ _ | refine below_set ?_ (by first | exact Nat.le_refl _ | exact Nat.le_add_right _ _ | exact below_size (by assumption) | omega))) hb6
                  have hO := blk_below hZ hb6
                  have q0 : w6.cell? ⟨wc.heap.size, 0, none⟩ = _ := (blk_cell hO 0).trans rfl
                  have q1 : w6.cell? ⟨wc.heap.size, 1, none⟩ = _ := (blk_cell hO 1).trans rfl
                  have q2 : w6.cell? ⟨wc.heap.size, 2, none⟩ = _ := (blk_cell hO 2).trans rfl
                  have z0 : w6.frozen? ⟨wc.heap.size, 0, none⟩ = false := blk_frozen hO 0
                  have z1 : w6.frozen? ⟨wc.heap.size, 1, none⟩ = false := blk_frozen hO 1
                  have z2 : w6.frozen? ⟨wc.heap.size, 2, none⟩ = false := blk_frozen hO 2
                  (try go_back)
                  refine hK.out _ _ (HQ5.out _ (by repeat (first | assumption | exact Below.refl _ _ | refine below_drew1 ?_ | refine below_alloc ?_ _ | refine below_made ?_ _ | refine below_set ?_ (by first | exact Nat.le_refl _ | exact Nat.le_add_right _ _ | exact below_size (by assumption) | omega)))) (fun hHeld => ?_)
                  clear hK K
                  (try simp only [Act.put, List.setIfInBounds_toArray, List.set_cons_zero, List.set_cons_succ])
                  refine wpAnyH_take (i := 15) (v := .tuple #[.agg #[.int .i64 0, .slice E1 0 e1, .slice E2 0 e2], .int .i64 5]) (by simp only [List.getElem?_toArray, List.getElem?_cons_succ, List.getElem?_cons_zero]; rfl) (by kernel_rfl) (by kernel_rfl) (by kernel_rfl) (fun _ _ _ h => h) (Or.inl ⟨by rfl, by intro W hSw; go_simp⟩) (by assumption) ?_
                  (try simp only [Act.put, List.setIfInBounds_toArray, List.set_cons_zero, List.set_cons_succ])
                  refine wpAnyH_take (i := 16) (v := .agg #[.int .i64 0, .slice E1 0 e1, .slice E2 0 e2]) (by simp only [List.getElem?_toArray, List.getElem?_cons_succ, List.getElem?_cons_zero]; rfl) (by kernel_rfl) (by kernel_rfl) (by kernel_rfl) (fun _ _ _ h => h) (Or.inl ⟨by rfl, by intro W hSw; go_simp⟩) (by assumption) ?_
                  (try simp only [Act.put, List.setIfInBounds_toArray, List.set_cons_zero, List.set_cons_succ])
                  refine wpAnyH_take (i := 17) (v := .int .i64 5) (by simp only [List.getElem?_toArray, List.getElem?_cons_succ, List.getElem?_cons_zero]; rfl) (by kernel_rfl) (by kernel_rfl) (by kernel_rfl) (fun _ _ _ h => h) (Or.inl ⟨by rfl, by intro W hSw; go_simp⟩) (by assumption) ?_
                  (try simp only [Act.put, List.setIfInBounds_toArray, List.set_cons_zero, List.set_cons_succ])
                  refine wpAnyH_ready (rs := [19]) (by kernel_rfl) (by simp) ?_
                  refine AllReadyH.cons (by simp only [List.getElem?_toArray, List.getElem?_cons_succ, List.getElem?_cons_zero]; rfl) (fun K hK => ?_) ?_
                  · go_simp
                    refine hK.out _ _ (HQ5.out _ (by repeat (first | assumption | exact Below.refl _ _ | refine below_drew1 ?_ | refine below_alloc ?_ _ | refine below_made ?_ _ | refine below_set ?_ (by first | exact Nat.le_refl _ | exact Nat.le_add_right _ _ | exact below_size (by assumption) | omega)))) (fun hHeld => ?_)
                    clear hK K
                    (try simp only [Act.put, List.setIfInBounds_toArray, List.set_cons_zero, List.set_cons_succ])
                    refine wpAnyH_take (i := 20) (v := .int .i64 5) (by simp only [List.getElem?_toArray, List.getElem?_cons_succ, List.getElem?_cons_zero]; rfl) (by kernel_rfl) (by kernel_rfl) (by kernel_rfl) (fun _ _ _ h => h) (Or.inl ⟨by rfl, by intro W hSw; go_simp⟩) (by assumption) ?_
                    (try simp only [Act.put, List.setIfInBounds_toArray, List.set_cons_zero, List.set_cons_succ])
                    refine wpAnyH_done (by kernel_rfl) ?_ _
                    refine NoPanic.normal ?_
                    go_wp2_with fail
                    go_meet
                    exact ⟨rfl, (by repeat (first | assumption | exact Below.refl _ _ | refine below_drew1 ?_ | refine below_alloc ?_ _ | refine below_made ?_ _ | refine below_set ?_ (by first | exact Nat.le_refl _ | exact Nat.le_add_right _ _ | exact below_size (by assumption) | omega)))⟩
                  exact AllReadyH.nil
                exact AllReadyH.nil
              exact AllReadyH.nil
            exact AllReadyH.nil
          refine AllReadyH.cons (by simp only [List.getElem?_toArray, List.getElem?_cons_succ, List.getElem?_cons_zero]; rfl) (fun K hK => ?_) ?_
          · go_simp
            refine hK.out _ _ (HQ5.out _ (by repeat (first | assumption | exact Below.refl _ _ | refine below_drew1 ?_ | refine below_alloc ?_ _ | refine below_made ?_ _ | refine below_set ?_ (by first | exact Nat.le_refl _ | exact Nat.le_add_right _ _ | exact below_size (by assumption) | omega)))) (fun hHeld => ?_)
            clear hK K
            (try simp only [Act.put, List.setIfInBounds_toArray, List.set_cons_zero, List.set_cons_succ])
            refine wpAnyH_ready (rs := [2]) (by kernel_rfl) (by simp) ?_
            refine AllReadyH.cons (by simp only [List.getElem?_toArray, List.getElem?_cons_succ, List.getElem?_cons_zero]; rfl) (fun K hK => ?_) ?_
            · go_simp
              refine hK.out _ _ (HQ5.out _ (by repeat (first | assumption | exact Below.refl _ _ | refine below_drew1 ?_ | refine below_alloc ?_ _ | refine below_made ?_ _ | refine below_set ?_ (by first | exact Nat.le_refl _ | exact Nat.le_add_right _ _ | exact below_size (by assumption) | omega)))) (fun hHeld => ?_)
              clear hK K
              (try simp only [Act.put, List.setIfInBounds_toArray, List.set_cons_zero, List.set_cons_succ])
              refine wpAnyH_ready (rs := [5]) (by kernel_rfl) (by simp) ?_
              refine AllReadyH.cons (by simp only [List.getElem?_toArray, List.getElem?_cons_succ, List.getElem?_cons_zero]; rfl) (fun K hK => ?_) ?_
              · refine step_append_made wc _ rfl (.tmp 62) (.tmp 64) rfl b HPB.out _ _ more (by rfl) _ (by rfl) (by repeat (first | exact made_at b (by first | rfl | (simp [made_size]; done)) | refine MadeAt.drew ?_ | refine MadeAt.alloc ?_ _)) (t := 5) (by repeat (first | exact blk_new_at (by first | rfl | (simp [made_size]; done)) _ | refine blk_drew ?_ | refine blk_made ?_ _ | refine blk_alloc ?_ _)) (by first | exact Nat.le_refl _ | exact Nat.le_add_right _ _ | omega) (by repeat (first | assumption | exact Below.refl _ _ | refine below_drew1 ?_ | refine below_alloc ?_ _ | refine below_made ?_ _ | refine below_set ?_ (by first | exact Nat.le_refl _ | exact Nat.le_add_right _ _ | exact below_size (by assumption) | omega))) (by omega) bm HBM.out ?_
                intro A5 c5 w5 hC5 hc5 hb5 hk5
                have hZ : w5.heap[wc.heap.size + 0]? = some (.cells #[.int .i64 0, .slice none 0 0, .slice none 0 0] 25 (0, 0)) := hk5 _ _ (by omega) (by repeat (first | exact blk_new_at (by first | rfl | (simp [made_size]; done)) _ | refine blk_drew ?_ | refine blk_made ?_ _ | refine blk_alloc ?_ _))
                refine hK.out _ _ (HQ5.out _ (by repeat (first | assumption | exact Below.refl _ _ | refine below_drew1 ?_ | refine below_alloc ?_ _ | refine below_made ?_ _ | refine below_set ?_ (by first | exact Nat.le_refl _ | exact Nat.le_add_right _ _ | exact below_size (by assumption) | omega)))) (fun hHeld => ?_)
                clear hK K
                (try simp only [Act.put, List.setIfInBounds_toArray, List.set_cons_zero, List.set_cons_succ])
                refine wpAnyH_ready (rs := [14]) (by kernel_rfl) (by simp) ?_
                refine AllReadyH.cons (by simp only [List.getElem?_toArray, List.getElem?_cons_succ, List.getElem?_cons_zero]; rfl) (fun K hK => ?_) ?_
                · go_simp
                  go_at_call 12
                  refine (HGT5.out w5 A5 c5 (below_step (below_step HB3.out HBC.out) (by repeat (first | assumption | exact Below.refl _ _ | refine below_drew1 ?_ | refine below_alloc ?_ _ | refine below_made ?_ _ | refine below_set ?_ (by first | exact Nat.le_refl _ | exact Nat.le_add_right _ _ | exact below_size (by assumption) | omega)))) hc5 hC5).mono ?_
                  rintro e w6 ⟨E1, e1, E2, e2, rfl, hb6⟩
                  have hb6w : Below wc.heap.size wc w6 := below_step (by repeat (first | assumption | exact Below.refl _ _ | refine below_drew1 ?_ | refine below_alloc ?_ _ | refine below_made ?_ _ | refine below_set ?_ (by first | exact Nat.le_refl _ | exact Nat.le_add_right _ _ | exact below_size (by assumption) | omega))) hb6
                  have hO := blk_below hZ hb6
                  have q0 : w6.cell? ⟨wc.heap.size, 0, none⟩ = _ := (blk_cell hO 0).trans rfl
                  have q1 : w6.cell? ⟨wc.heap.size, 1, none⟩ = _ := (blk_cell hO 1).trans rfl
                  have q2 : w6.cell? ⟨wc.heap.size, 2, none⟩ = _ := (blk_cell hO 2).trans rfl
                  have z0 : w6.frozen? ⟨wc.heap.size, 0, none⟩ = false := blk_frozen hO 0
                  have z1 : w6.frozen? ⟨wc.heap.size, 1, none⟩ = false := blk_frozen hO 1
                  have z2 : w6.frozen? ⟨wc.heap.size, 2, none⟩ = false := blk_frozen hO 2
                  (try go_back)
                  refine hK.out _ _ (HQ5.out _ (by repeat (first | assumption | exact Below.refl _ _ | refine below_drew1 ?_ | refine below_alloc ?_ _ | refine below_made ?_ _ | refine below_set ?_ (by first | exact Nat.le_refl _ | exact Nat.le_add_right _ _ | exact below_size (by assumption) | omega)))) (fun hHeld => ?_)
                  clear hK K
                  (try simp only [Act.put, List.setIfInBounds_toArray, List.set_cons_zero, List.set_cons_succ])
                  refine wpAnyH_take (i := 15) (v := .tuple #[.agg #[.int .i64 0, .slice E1 0 e1, .slice E2 0 e2], .int .i64 5]) (by simp only [List.getElem?_toArray, List.getElem?_cons_succ, List.getElem?_cons_zero]; rfl) (by kernel_rfl) (by kernel_rfl) (by kernel_rfl) (fun _ _ _ h => h) (Or.inl ⟨by rfl, by intro W hSw; go_simp⟩) (by assumption) ?_
                  (try simp only [Act.put, List.setIfInBounds_toArray, List.set_cons_zero, List.set_cons_succ])
                  refine wpAnyH_take (i := 16) (v := .agg #[.int .i64 0, .slice E1 0 e1, .slice E2 0 e2]) (by simp only [List.getElem?_toArray, List.getElem?_cons_succ, List.getElem?_cons_zero]; rfl) (by kernel_rfl) (by kernel_rfl) (by kernel_rfl) (fun _ _ _ h => h) (Or.inl ⟨by rfl, by intro W hSw; go_simp⟩) (by assumption) ?_
                  (try simp only [Act.put, List.setIfInBounds_toArray, List.set_cons_zero, List.set_cons_succ])
                  refine wpAnyH_take (i := 17) (v := .int .i64 5) (by simp only [List.getElem?_toArray, List.getElem?_cons_succ, List.getElem?_cons_zero]; rfl) (by kernel_rfl) (by kernel_rfl) (by kernel_rfl) (fun _ _ _ h => h) (Or.inl ⟨by rfl, by intro W hSw; go_simp⟩) (by assumption) ?_
                  (try simp only [Act.put, List.setIfInBounds_toArray, List.set_cons_zero, List.set_cons_succ])
                  refine wpAnyH_ready (rs := [19]) (by kernel_rfl) (by simp) ?_
                  refine AllReadyH.cons (by simp only [List.getElem?_toArray, List.getElem?_cons_succ, List.getElem?_cons_zero]; rfl) (fun K hK => ?_) ?_
                  · go_simp
                    refine hK.out _ _ (HQ5.out _ (by repeat (first | assumption | exact Below.refl _ _ | refine below_drew1 ?_ | refine below_alloc ?_ _ | refine below_made ?_ _ | refine below_set ?_ (by first | exact Nat.le_refl _ | exact Nat.le_add_right _ _ | exact below_size (by assumption) | omega)))) (fun hHeld => ?_)
                    clear hK K
                    (try simp only [Act.put, List.setIfInBounds_toArray, List.set_cons_zero, List.set_cons_succ])
                    refine wpAnyH_take (i := 20) (v := .int .i64 5) (by simp only [List.getElem?_toArray, List.getElem?_cons_succ, List.getElem?_cons_zero]; rfl) (by kernel_rfl) (by kernel_rfl) (by kernel_rfl) (fun _ _ _ h => h) (Or.inl ⟨by rfl, by intro W hSw; go_simp⟩) (by assumption) ?_
                    (try simp only [Act.put, List.setIfInBounds_toArray, List.set_cons_zero, List.set_cons_succ])
                    refine wpAnyH_done (by kernel_rfl) ?_ _
                    refine NoPanic.normal ?_
                    go_wp2_with fail
                    go_meet
                    exact ⟨rfl, (by repeat (first | assumption | exact Below.refl _ _ | refine below_drew1 ?_ | refine below_alloc ?_ _ | refine below_made ?_ _ | refine below_set ?_ (by first | exact Nat.le_refl _ | exact Nat.le_add_right _ _ | exact below_size (by assumption) | omega)))⟩
                  exact AllReadyH.nil
                exact AllReadyH.nil
              exact AllReadyH.nil
            exact AllReadyH.nil
          exact AllReadyH.nil
        exact AllReadyH.nil
      case rest =>
      obtain ⟨rfl, hb5⟩ := hcut
      have HOG := Lib.hid (blk_below HO.out hb5)
      have HBD := Lib.hid (below_step HBC.out hb5)
      have HE1 := Lib.hid (Kd.C_below HD1.out hb5)
      have HE2 := Lib.hid (Kd.C_below HD2.out hb5)
      have HBW := Lib.hid (below_step HB3.out HBD.out)
      have HXW := Lib.hid (blk_below HX3.out HBD.out)
      have HCW := Lib.hid (Kd.C_below HC3.out HBD.out)
      have HSC := Lib.hid (inquestref03_SameTrace.calls ks n D1 d1 init D2 d2 fr n A1 c1 init (some ad) c2 fr true _ HE1.out hd1 HE2.out hd2 (Kd.C_below HR1.out HBW.out) hc1 (Kd.C_below HR2.out HBW.out) hc2 HSM.out)
      clear hb5 HO HD1 HD2 HQ5 HGT5 HCV HC3 HX3

      have p0 : wc.cell? ⟨w.heap.size, 0, none⟩ = some (.int .i64 (n : Int)) := (blk_cell HXW.out 0).trans rfl
      have p1 : wc.cell? ⟨w.heap.size, 1, none⟩ = some (.slice A1 init.length c1) := (blk_cell HXW.out 1).trans rfl
      have p2 : wc.cell? ⟨w.heap.size, 2, none⟩ = some (.slice (some ad) fr.length c2) := (blk_cell HXW.out 2).trans rfl
      have o0 : wc.cell? ⟨og, 0, none⟩ = some (.int .i64 (n : Int)) := (blk_cell HOG.out 0).trans rfl
      have o1 : wc.cell? ⟨og, 1, none⟩ = some (.slice D1 init.length d1) := (blk_cell HOG.out 1).trans rfl
      have o2 : wc.cell? ⟨og, 2, none⟩ = some (.slice D2 fr.length d2) := (blk_cell HOG.out 2).trans rfl
      have hbl : (b.length : Int) < 1048576 := by omega
      go_wp2_with fail
      refine HSC.out.mono ?_
      rintro e w5 ⟨rfl, hb5⟩
      have HB5 := Lib.hid (below_step HBW.out hb5)
      have HX5 := Lib.hid (blk_below HXW.out hb5)
      have HC5 := Lib.hid (Kd.C_below HCW.out hb5)
      have x5 := HFF.out w5 HB5.out
      clear hb5 p0 p1 p2 o0 o1 o2 HOG HSC HE1 HE2 HBW HXW HCW HBD HBC
      have q1 : w5.cell? ⟨w.heap.size, 1, none⟩ = some (.slice A1 init.length c1) := (blk_cell HX5.out 1).trans rfl
      have q2 : w5.cell? ⟨w.heap.size, 2, none⟩ = some (.slice (some ad) fr.length c2) := (blk_cell HX5.out 2).trans rfl
      by_cases hcut : cut < 0 ∨ (b.length : Int) ≤ cut
      · clear x5 q1 q2
        by_cases hcut0 : cut < 0
        all_goals
          have hcut1 : 0 ≤ cut → (b.length : Int) ≤ cut := fun h => by rcases hcut with h1 | h1 <;> omega
          have HCT := Lib.hid hcut1
          clear hcut hcut1
          first
            | (have hcut2 : (b.length : Int) ≤ cut := HCT.out (by omega))
            | skip
          go_wp2_with fail
          refine (HLI.out _ HB5.out).mono ?_
          rintro e w6 ⟨rfl, hb6⟩
          have HB6 := Lib.hid (below_step HB5.out hb6)
          clear hb6
          go_wp2_with fail
          go_ret
          exact ⟨rfl, HB6.out⟩
      · obtain ⟨kc, rfl⟩ : ∃ kc : Nat, cut = (kc : Int) := ⟨cut.toNat, by omega⟩
        have hkb : (kc : Int) < (b.length : Int) := by omega
        have hkb' : kc < b.length := by omega
        have hk0 : (0 : Int) ≤ (kc : Int) := by omega
        have hkv : (kc : Int) ≤ (cv : Int) := by omega
        have hkv' : kc ≤ cv := by omega
        clear hcut
        have HGT4 : Hid (∀ W, Below w5.heap.size w5 W → Calls Tryd.prog 12 #[.slice Av kc cv, .int .i64 (init.length : Int), .int .i64 (first : Int)] W fun e w' => ∃ A1 c1 A2 c2, e = .returned (.tuple #[.agg #[.int .i64 0, .slice A1 0 c1, .slice A2 0 c2], .int .i64 4]) ∧ Below W.heap.size W w') := Lib.hid (fun W hb => by
          obtain ⟨k0, hk0⟩ := HCUT.out (b.take kc) (b.drop kc) (by rw [List.length_take]; omega) (List.take_append_drop kc b) (fun h => by have := congrArg List.length h; rw [List.length_drop, List.length_nil] at this; omega)
          have hl : (b.take kc).length = kc := by rw [List.length_take]; omega
          have hC := Kd.C_below (Kd.C_take HC5.out (Nat.le_of_lt hkb')) hb
          have h1 := got_calls k0 (b.take kc) _ _ _ _ _ _ hk0 Av cv (by omega) W (Gl.below (below_step HB5.out hb) HG.out) hC
          rw [hl] at h1
          refine h1.mono ?_
          rintro e w' ⟨A1, c1, A2, c2, rfl, _, _, _, _, hb'⟩
          exact ⟨A1, c1, A2, c2, rfl, hb'⟩)
        have HQ6 : Hid (∀ W, Below w5.heap.size w5 W → W.cell? ⟨w.heap.size, 1, none⟩ = some (.slice A1 init.length c1) ∧ W.cell? ⟨w.heap.size, 2, none⟩ = some (.slice (some ad) fr.length c2) ∧ W.cell? ad = some (.slice Af first cf)) := Lib.hid (fun W hb => ⟨(blk_cell (blk_below HX5.out hb) 1).trans rfl, (blk_cell (blk_below HX5.out hb) 2).trans rfl, HFF.out W (below_step HB5.out hb)⟩)
        have HKB := Lib.hid hkb'
        have HKV := Lib.hid hkv'
        have HTN := Lib.hid hk0
        have hd1 : decide ((kc : Int) < 0) = false := decide_eq_false (by omega)
        have hd2 : decide (b.length ≤ kc) = false := decide_eq_false (by omega)
        have HKA := Lib.hid hkb
        have HKC := Lib.hid hkv
        clear hkb' hkv' hkb hkv hk0 hbl hmr hms hbL hfst
        go_upto_region 10 with fail
        clear q1 q2 x5
        have hk0 := HTN.out
        have hkv := HKC.out
        go_cut [13, 14] from 103 to 117 (fun s13 s14 wx => s14 = .int .i64 4 ∧ Below w5.heap.size w5 wx)
        case first =>
          go_region_held3 (fun W => W.cell? ⟨w.heap.size, 1, none⟩ = some (.slice A1 init.length c1) ∧ W.cell? ⟨w.heap.size, 2, none⟩ = some (.slice (some ad) fr.length c2) ∧ W.cell? ad = some (.slice Af first cf))
            (exact HQ6.out _ (by repeat (first | assumption | exact Below.refl _ _ | refine below_drew1 ?_ | refine below_alloc ?_ _ | refine below_set ?_ (by first | exact Nat.le_refl _ | exact below_size (by assumption)))))
            (first
              | (go_at_call 12; refine (HGT4.out _ (by first | exact below_drew1 (Below.refl _ _) | exact below_alloc (below_drew1 (Below.refl _ _)) _)).mono ?_; rintro e w6 ⟨E1, e1, E2, e2, rfl, hb6⟩; have hb6w : Below w5.heap.size w5 w6 := below_step (by first | exact below_drew1 (Below.refl _ _) | exact below_alloc (below_drew1 (Below.refl _ _)) _) hb6; first | (have hO := blk_below (blk_new (World.drew w5) (.cells #[.int .i64 0, .slice none 0 0, .slice none 0 0] 25)) hb6; have q40 : w6.cell? ⟨w5.heap.size, 0, none⟩ = _ := (blk_cell hO 0).trans rfl; have q41 : w6.cell? ⟨w5.heap.size, 1, none⟩ = _ := (blk_cell hO 1).trans rfl; have q42 : w6.cell? ⟨w5.heap.size, 2, none⟩ = _ := (blk_cell hO 2).trans rfl; have z40 : w6.frozen? ⟨w5.heap.size, 0, none⟩ = false := blk_frozen hO 0; have z41 : w6.frozen? ⟨w5.heap.size, 1, none⟩ = false := blk_frozen hO 1; have z42 : w6.frozen? ⟨w5.heap.size, 2, none⟩ = false := blk_frozen hO 2) | skip))
          all_goals
            go_wp2_with fail
            go_meet
            first
              | exact ⟨rfl, below_alloc hb6w _⟩
              | exact ⟨rfl, below_set (below_set (below_set hb6w (Nat.le_refl _)) (Nat.le_refl _)) (Nat.le_refl _)⟩
        case rest =>
        obtain ⟨rfl, hb7⟩ := hcut
        have HB7 := Lib.hid (below_step HB5.out hb7)
        clear hb7 HQ6 HGT4
        go_wp2_with fail
        refine (HLI.out _ HB7.out).mono ?_
        rintro e w8 ⟨rfl, hb8⟩
        have HB8 := Lib.hid (below_step HB7.out hb8)
        clear hb8
        go_wp2_with fail
        go_ret
        exact ⟨rfl, HB8.out⟩
    · clear hq hr2 hoi hof
      go_enter Tryd.func4, Tryd.ntmps4
      go_wp2_with fail
      refine (HP.out _ HB.out).mono ?_
      rintro e w2 ⟨v, rfl, hv, hb2⟩
      obtain ⟨Av, cv, rfl⟩ := Kd.R_slice hv
      have HX2 := Lib.hid (blk_below HX.out hb2)
      have p0 : w2.cell? ⟨w.heap.size, 0, none⟩ = some (.int .i64 (n : Int)) := (blk_cell HX2.out 0).trans rfl
      have p1 : w2.cell? ⟨w.heap.size, 1, none⟩ = some (.slice A1 init.length c1) := (blk_cell HX2.out 1).trans rfl
      have p2 : w2.cell? ⟨w.heap.size, 2, none⟩ = some (.slice (some ad) fr.length c2) := (blk_cell HX2.out 2).trans rfl
      have HB2 := Lib.hid (below_step HB.out hb2)
      clear hv hb2 HP HX q0 q1 q2
      go_wp2_with fail
      refine (HGR.out _ HB2.out).mono ?_
      rintro e w3 ⟨rfl, hb3⟩
      have HX3 := Lib.hid (blk_below HX2.out hb3)
      have HB3 := Lib.hid (below_step HB2.out hb3)
      have p30 : w3.cell? ⟨w.heap.size, 0, none⟩ = some (.int .i64 (n : Int)) := (blk_cell HX3.out 0).trans rfl
      have p31 : w3.cell? ⟨w.heap.size, 1, none⟩ = some (.slice A1 init.length c1) := (blk_cell HX3.out 1).trans rfl
      have p32 : w3.cell? ⟨w.heap.size, 2, none⟩ = some (.slice (some ad) fr.length c2) := (blk_cell HX3.out 2).trans rfl
      clear hb3 p0 p1 p2 HX2
      go_wp2_with fail
      refine (HGR.out _ HB3.out).mono ?_
      rintro e w4 ⟨rfl, hb4⟩
      have HB4 := Lib.hid (below_step HB3.out hb4)
      clear hb4 p30 p31 p32
      go_wp2_with fail
      refine (HLI.out _ HB4.out).mono ?_
      rintro e w5 ⟨rfl, hb5⟩
      have HB5 := Lib.hid (below_step HB4.out hb5)
      clear hb5
      go_wp2_with fail
      go_ret
      exact ⟨rfl, HB5.out⟩
end Go.Proofs.YtfajplhkbpobiaaDoor.Z
