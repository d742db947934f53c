/- store.Get: what it reads. -/
import Derived.Test.YtfnahihdkbgleaaGreatDoorGetF
import Derived.Test.YtfnahihdkbgleaaGreatDoorNumber
import Derived.Test.YtfnahihdkbgleaaGreatDoorFine
import Derived.Deep.RegionHeld3
import Derived.Test.YtfnahihdkbgleaaGreatDoorFile
/- store.item: the first item of bytes. -/
namespace Go.Proofs.YtfnahihdkbgleaaGreatDoor.Z
set_option linter.unusedVariables false
open Go.RowKit Go.Proofs.YtfnahihdkbgleaaGreatDoorW.PrintWords Go.Proofs.YtfnahihdkbgleaaGreatDoorW.PrintWords.Kd
/-- The results: the cell's item, the two slots. -/
theorem item_results (g : Nat) (tmps : Array Value) (W : World) (a b1 c2 : Value) (ht : tmps.getD 2 undef = .pointer (some ⟨g, 0, none⟩)) (h0 : W.cell? ⟨g, 0, none⟩ = some a) (h1 : W.cell? ⟨g, 1, none⟩ = some b1) (h2 : W.cell? ⟨g, 2, none⟩ = some c2) :
    (results Tryz.f18 tmps).run Tryz.prog W = .ok (.tuple #[.agg #[a, b1, c2], tmps.getD 3 undef, tmps.getD 4 undef]) W := by
  have hf : Tryz.f18.results = #[.cell 2 37, .tmp 3, .tmp 4] := rfl
  have ht' : tmps[2]?.getD undef = .pointer (some ⟨g, 0, none⟩) := by simpa using ht
  simp only [results, hf]
  simp [ht', go_sem, h0, h1, h2]
set_option maxHeartbeats 1600000 in
set_option maxRecDepth 100000 in
theorem item_words_bad (b ws rest : _) (e : Int) (hw : store_words.f b 3 = some (ws, rest, e)) (he : e ≠ 0) (A0 : Option Addr) (c0 : Nat) (w : World) (hG : Gl w) (hr : Kd.C (Kd.int .u8) w A0 b.length b) (hc : b.length ≤ c0) :
    Calls Tryz.prog 18 #[.slice A0 b.length c0] w fun r w' => r = .returned (.tuple #[.agg #[.int .u8 0, .string ⟨#[]⟩, .slice none 0 0], .slice none 0 0, .int .i64 e]) ∧ Below w.heap.size w w' := by
  have hu := Tryz.underlying37
  have hb1 : (e != 0) = true := bne_iff_ne.2 he
  have hba : Below w.heap.size w (w.alloc (.cells #[.int .u8 0, .string ⟨#[]⟩, .slice none 0 0] 37)) := (Below.refl _ _).alloc (Nat.le_refl _) _
  have hbk := blk_new w (.cells #[.int .u8 0, .string ⟨#[]⟩, .slice none 0 0] 37)
  have HW := Lib.hid (store_words.calls A0 c0 b 3 ws rest e _ (Gl.below hba hG) (Kd.C_below hr hba) hc hw)
  have HB := Lib.hid hba
  have HK := Lib.hid hbk
  clear hr hba hbk hG
  go_enter Tryz.func18, Tryz.ntmps18
  go_wp2_with fail
  refine HW.out.mono ?_
  rintro r w1 ⟨v0, v1, rfl, h0, h1, hb2⟩
  obtain ⟨A1, c1, rfl⟩ := Kd.R_slice h0
  obtain ⟨A2, c2, rfl⟩ := Kd.R_slice h1
  have hK1 := blk_below HK.out hb2
  have q0 : w1.cell? ⟨w.heap.size, 0, none⟩ = some (.int .u8 0) := (blk_cell hK1 0).trans rfl
  have q1 : w1.cell? ⟨w.heap.size, 1, none⟩ = some (.string ⟨#[]⟩) := (blk_cell hK1 1).trans rfl
  have q2 : w1.cell? ⟨w.heap.size, 2, none⟩ = some (.slice none 0 0) := (blk_cell hK1 2).trans rfl
  have z0 := blk_frozen hK1 0
  have z1 := blk_frozen hK1 1
  have z2 := blk_frozen hK1 2
  have HB1 := Lib.hid (below_step HB.out hb2)
  have HK1 := Lib.hid hK1
  clear h0 h1 hb2 hK1 HW
  go_wp2_with fail
  (try simp only [Exit.inBlock, Exit.then])
  have hK3 := blk_set (blk_set (blk_set HK1.out 0 (.int .u8 0)) 1 (.string ⟨#[]⟩)) 2 (.slice none 0 0)
  refine bodyPost_ret (item_results w.heap.size _ _ (.int .u8 0) (.string ⟨#[]⟩) (.slice none 0 0) rfl ((blk_cell hK3 0).trans rfl) ((blk_cell hK3 1).trans rfl) ((blk_cell hK3 2).trans rfl)) rfl ?_
  exact ⟨rfl, below_set (below_set (below_set HB1.out (Nat.le_refl _)) (Nat.le_refl _)) (Nat.le_refl _)⟩
set_option maxHeartbeats 1600000 in
set_option maxRecDepth 100000 in
/-- Up to the two numbers, for all that comes behind them. -/
theorem item_number_bad (b : List Int) (s0 s1 s2 : ByteArray) (rest : List Int) (hw : store_words.f b 3 = some ([s0, s1, s2], rest, 0)) (hk : (numF s0 4).2 ≠ 0) (hs0 : s0.size ≤ 281474976710656) (hs2 : s2.size ≤ 281474976710656) (A0 : Option Addr) (c0 : Nat) (w : World) (hG : Gl w) (hr : Kd.C (Kd.int .u8) w A0 b.length b) (hc : b.length ≤ c0) :
    Calls Tryz.prog 18 #[.slice A0 b.length c0] w fun r w' => r = .returned (.tuple #[.agg #[.int .u8 0, .string ⟨#[]⟩, .slice none 0 0], .slice none 0 0, .int .i64 5]) ∧ Below w.heap.size w w' := by
  have hu := Tryz.underlying37
  have hb1 : ((numF s0 4).2 != 0) = true := bne_iff_ne.2 hk
  have hba : Below w.heap.size w (w.alloc (.cells #[.int .u8 0, .string ⟨#[]⟩, .slice none 0 0] 37)) := (Below.refl _ _).alloc (Nat.le_refl _) _
  have hbk := blk_new w (.cells #[.int .u8 0, .string ⟨#[]⟩, .slice none 0 0] 37)
  have HW := Lib.hid (store_words.calls A0 c0 b 3 _ rest 0 _ (Gl.below hba hG) (Kd.C_below hr hba) hc hw)
  have HB := Lib.hid hba
  have HK := Lib.hid hbk
  have HG := Lib.hid hG
  clear hr hba hbk hG hk
  go_enter Tryz.func18, Tryz.ntmps18
  go_wp2_with fail
  refine HW.out.mono ?_
  rintro r w1 ⟨v0, v1, rfl, h0, h1, hb2⟩
  obtain ⟨A1, c1, rfl, hl1, hC1⟩ := Kd.R_reads h0
  obtain ⟨A2, c2, rfl⟩ := Kd.R_slice h1
  have hK1 := Lib.hid (blk_below HK.out hb2)
  have HB1 := Lib.hid (below_step HB.out hb2)
  have rd := Kd.reads_of_C (d := (⟨#[]⟩ : ByteArray)) (enc := Value.string) (h1 := fun _ => rfl) hC1
  obtain ⟨ad, rfl, hcell⟩ := rd.2.2 (by simp)
  have x0 : w1.cell? ad = some (.string s0) := hcell 0 (by simp)
  have x2 : w1.cell? ⟨ad.block, ad.off + 2, none⟩ = some (.string s2) := hcell 2 (by simp)
  clear h0 h1 hb2 HW rd hcell hC1
  go_wp2_with fail
  refine (number_calls s0 4 (by decide) hs0 w1 (Gl.below HB1.out HG.out)).mono ?_
  rintro r w2 ⟨rfl, hb3⟩
  have x2b : w2.cell? ⟨ad.block, ad.off + 2, none⟩ = some (.string s2) := (hb3.cell (World.block_lt_of_cell? w1 _ x2)).trans x2
  have hK2 := Lib.hid (blk_below hK1.out hb3)
  have HB2 := Lib.hid (below_step HB1.out hb3)
  clear hb3 x0 x2 hK1
  go_wp2_with fail
  refine (number_calls s2 1048576 (by decide) hs2 w2 (Gl.below HB2.out HG.out)).mono ?_
  rintro r w3 ⟨rfl, hb4⟩
  have hK3 := blk_below hK2.out hb4
  have HK3 := Lib.hid hK3
  have q0 : w3.cell? ⟨w.heap.size, 0, none⟩ = some (.int .u8 0) := (blk_cell hK3 0).trans rfl
  have q1 : w3.cell? ⟨w.heap.size, 1, none⟩ = some (.string ⟨#[]⟩) := (blk_cell hK3 1).trans rfl
  have q2 : w3.cell? ⟨w.heap.size, 2, none⟩ = some (.slice none 0 0) := (blk_cell hK3 2).trans rfl
  have z0 := blk_frozen hK3 0
  have z1 := blk_frozen hK3 1
  have z2 := blk_frozen hK3 2
  have HB3 := Lib.hid (below_step HB2.out hb4)
  clear hb4 hK3 x2b hK2
  go_wp2_with fail
  (try simp only [Exit.inBlock, Exit.then])
  have hK5 := blk_set (blk_set (blk_set HK3.out 0 (.int .u8 0)) 1 (.string ⟨#[]⟩)) 2 (.slice none 0 0)
  refine bodyPost_ret (item_results w.heap.size _ _ (.int .u8 0) (.string ⟨#[]⟩) (.slice none 0 0) rfl ((blk_cell hK5 0).trans rfl) ((blk_cell hK5 1).trans rfl) ((blk_cell hK5 2).trans rfl)) rfl ?_
  exact ⟨rfl, below_set (below_set (below_set HB3.out (Nat.le_refl _)) (Nat.le_refl _)) (Nat.le_refl _)⟩
set_option maxHeartbeats 1600000 in
set_option maxRecDepth 100000 in
/-- The second number is bad. -/
theorem item_number_bad2 (b : List Int) (s0 s1 s2 : ByteArray) (rest : List Int) (hw : store_words.f b 3 = some ([s0, s1, s2], rest, 0)) (hk0 : (numF s0 4).2 = 0) (hk : (numF s2 1048576).2 ≠ 0) (hs0 : s0.size ≤ 281474976710656) (hs2 : s2.size ≤ 281474976710656) (A0 : Option Addr) (c0 : Nat) (w : World) (hG : Gl w) (hr : Kd.C (Kd.int .u8) w A0 b.length b) (hc : b.length ≤ c0) :
    Calls Tryz.prog 18 #[.slice A0 b.length c0] w fun r w' => r = .returned (.tuple #[.agg #[.int .u8 0, .string ⟨#[]⟩, .slice none 0 0], .slice none 0 0, .int .i64 5]) ∧ Below w.heap.size w w' := by
  have hu := Tryz.underlying37
  have hb1 : ((numF s2 1048576).2 != 0) = true := bne_iff_ne.2 hk
  have hba : Below w.heap.size w (w.alloc (.cells #[.int .u8 0, .string ⟨#[]⟩, .slice none 0 0] 37)) := (Below.refl _ _).alloc (Nat.le_refl _) _
  have hbk := blk_new w (.cells #[.int .u8 0, .string ⟨#[]⟩, .slice none 0 0] 37)
  have HW := Lib.hid (store_words.calls A0 c0 b 3 _ rest 0 _ (Gl.below hba hG) (Kd.C_below hr hba) hc hw)
  have HB := Lib.hid hba
  have HK := Lib.hid hbk
  have HG := Lib.hid hG
  clear hr hba hbk hG hk
  have hb0 : ((numF s0 4).2 != 0) = false := by rw [hk0]; rfl
  go_enter Tryz.func18, Tryz.ntmps18
  go_wp2_with fail
  refine HW.out.mono ?_
  rintro r w1 ⟨v0, v1, rfl, h0, h1, hb2⟩
  obtain ⟨A1, c1, rfl, hl1, hC1⟩ := Kd.R_reads h0
  obtain ⟨A2, c2, rfl⟩ := Kd.R_slice h1
  have hK1 := Lib.hid (blk_below HK.out hb2)
  have HB1 := Lib.hid (below_step HB.out hb2)
  have rd := Kd.reads_of_C (d := (⟨#[]⟩ : ByteArray)) (enc := Value.string) (h1 := fun _ => rfl) hC1
  obtain ⟨ad, rfl, hcell⟩ := rd.2.2 (by simp)
  have x0 : w1.cell? ad = some (.string s0) := hcell 0 (by simp)
  have x2 : w1.cell? ⟨ad.block, ad.off + 2, none⟩ = some (.string s2) := hcell 2 (by simp)
  clear h0 h1 hb2 HW rd hcell hC1
  go_wp2_with fail
  refine (number_calls s0 4 (by decide) hs0 w1 (Gl.below HB1.out HG.out)).mono ?_
  rintro r w2 ⟨rfl, hb3⟩
  have x2b : w2.cell? ⟨ad.block, ad.off + 2, none⟩ = some (.string s2) := (hb3.cell (World.block_lt_of_cell? w1 _ x2)).trans x2
  have hK2 := Lib.hid (blk_below hK1.out hb3)
  have HB2 := Lib.hid (below_step HB1.out hb3)
  clear hb3 x0 x2 hK1
  go_wp2_with fail
  refine (number_calls s2 1048576 (by decide) hs2 w2 (Gl.below HB2.out HG.out)).mono ?_
  rintro r w3 ⟨rfl, hb4⟩
  have hK3 := blk_below hK2.out hb4
  have HK3 := Lib.hid hK3
  have q0 : w3.cell? ⟨w.heap.size, 0, none⟩ = some (.int .u8 0) := (blk_cell hK3 0).trans rfl
  have q1 : w3.cell? ⟨w.heap.size, 1, none⟩ = some (.string ⟨#[]⟩) := (blk_cell hK3 1).trans rfl
  have q2 : w3.cell? ⟨w.heap.size, 2, none⟩ = some (.slice none 0 0) := (blk_cell hK3 2).trans rfl
  have z0 := blk_frozen hK3 0
  have z1 := blk_frozen hK3 1
  have z2 := blk_frozen hK3 2
  have HB3 := Lib.hid (below_step HB2.out hb4)
  clear hb4 hK3 x2b hK2
  go_wp2_with fail
  (try simp only [Exit.inBlock, Exit.then])
  have hK5 := blk_set (blk_set (blk_set HK3.out 0 (.int .u8 0)) 1 (.string ⟨#[]⟩)) 2 (.slice none 0 0)
  refine bodyPost_ret (item_results w.heap.size _ _ (.int .u8 0) (.string ⟨#[]⟩) (.slice none 0 0) rfl ((blk_cell hK5 0).trans rfl) ((blk_cell hK5 1).trans rfl) ((blk_cell hK5 2).trans rfl)) rfl ?_
  exact ⟨rfl, below_set (below_set (below_set HB3.out (Nat.le_refl _)) (Nat.le_refl _)) (Nat.le_refl _)⟩
set_option maxHeartbeats 1600000 in
set_option maxRecDepth 100000 in
/-- There are no more bytes than the number says. -/
theorem item_short (b : List Int) (s0 s1 s2 : ByteArray) (rest : List Int) (hw : store_words.f b 3 = some ([s0, s1, s2], rest, 0)) (hk0 : (numF s0 4).2 = 0) (hn0 : (numF s2 1048576).2 = 0) (hge : (rest.length : Int) ≤ (numF s2 1048576).1) (hrg : 0 ≤ (numF s2 1048576).1 ∧ (numF s2 1048576).1 ≤ 1048576) (hs0 : s0.size ≤ 281474976710656) (hs2 : s2.size ≤ 281474976710656) (A0 : Option Addr) (c0 : Nat) (w : World) (hG : Gl w) (hr : Kd.C (Kd.int .u8) w A0 b.length b) (hc : b.length ≤ c0) :
    Calls Tryz.prog 18 #[.slice A0 b.length c0] w fun r w' => r = .returned (.tuple #[.agg #[.int .u8 0, .string ⟨#[]⟩, .slice none 0 0], .slice none 0 0, .int .i64 5]) ∧ Below w.heap.size w w' := by
  have hu := Tryz.underlying37
  have hb1 : ((numF s2 1048576).2 != 0) = false := by rw [hn0]; rfl
  have hwn : IntKind.i64.wrap (numF s2 1048576).1 = (numF s2 1048576).1 := by rw [IntKind.wrap_i64]; omega
  have hba : Below w.heap.size w (w.alloc (.cells #[.int .u8 0, .string ⟨#[]⟩, .slice none 0 0] 37)) := (Below.refl _ _).alloc (Nat.le_refl _) _
  have hbk := blk_new w (.cells #[.int .u8 0, .string ⟨#[]⟩, .slice none 0 0] 37)
  have HW := Lib.hid (store_words.calls A0 c0 b 3 _ rest 0 _ (Gl.below hba hG) (Kd.C_below hr hba) hc hw)
  have HB := Lib.hid hba
  have HK := Lib.hid hbk
  have HG := Lib.hid hG
  clear hr hba hbk hG
  have hb0 : ((numF s0 4).2 != 0) = false := by rw [hk0]; rfl
  go_enter Tryz.func18, Tryz.ntmps18
  go_wp2_with fail
  refine HW.out.mono ?_
  rintro r w1 ⟨v0, v1, rfl, h0, h1, hb2⟩
  obtain ⟨A1, c1, rfl, hl1, hC1⟩ := Kd.R_reads h0
  obtain ⟨A2, c2, rfl⟩ := Kd.R_slice h1
  have hK1 := Lib.hid (blk_below HK.out hb2)
  have HB1 := Lib.hid (below_step HB.out hb2)
  have rd := Kd.reads_of_C (d := (⟨#[]⟩ : ByteArray)) (enc := Value.string) (h1 := fun _ => rfl) hC1
  obtain ⟨ad, rfl, hcell⟩ := rd.2.2 (by simp)
  have x0 : w1.cell? ad = some (.string s0) := hcell 0 (by simp)
  have x2 : w1.cell? ⟨ad.block, ad.off + 2, none⟩ = some (.string s2) := hcell 2 (by simp)
  clear h0 h1 hb2 HW rd hcell hC1
  go_wp2_with fail
  refine (number_calls s0 4 (by decide) hs0 w1 (Gl.below HB1.out HG.out)).mono ?_
  rintro r w2 ⟨rfl, hb3⟩
  have x2b : w2.cell? ⟨ad.block, ad.off + 2, none⟩ = some (.string s2) := (hb3.cell (World.block_lt_of_cell? w1 _ x2)).trans x2
  have hK2 := Lib.hid (blk_below hK1.out hb3)
  have HB2 := Lib.hid (below_step HB1.out hb3)
  clear hb3 x0 x2 hK1
  go_wp2_with fail
  refine (number_calls s2 1048576 (by decide) hs2 w2 (Gl.below HB2.out HG.out)).mono ?_
  rintro r w3 ⟨rfl, hb4⟩
  have hK3 := blk_below hK2.out hb4
  have HK3 := Lib.hid hK3
  have q0 : w3.cell? ⟨w.heap.size, 0, none⟩ = some (.int .u8 0) := (blk_cell hK3 0).trans rfl
  have q1 : w3.cell? ⟨w.heap.size, 1, none⟩ = some (.string ⟨#[]⟩) := (blk_cell hK3 1).trans rfl
  have q2 : w3.cell? ⟨w.heap.size, 2, none⟩ = some (.slice none 0 0) := (blk_cell hK3 2).trans rfl
  have z0 := blk_frozen hK3 0
  have z1 := blk_frozen hK3 1
  have z2 := blk_frozen hK3 2
  have HB3 := Lib.hid (below_step HB2.out hb4)
  clear hb4 hK3 x2b hK2
  go_wp2_with fail
  (try simp only [Exit.inBlock, Exit.then])
  have hK5 := blk_set (blk_set (blk_set HK3.out 0 (.int .u8 0)) 1 (.string ⟨#[]⟩)) 2 (.slice none 0 0)
  refine bodyPost_ret (item_results w.heap.size _ _ (.int .u8 0) (.string ⟨#[]⟩) (.slice none 0 0) rfl ((blk_cell hK5 0).trans rfl) ((blk_cell hK5 1).trans rfl) ((blk_cell hK5 2).trans rfl)) rfl ?_
  exact ⟨rfl, below_set (below_set (below_set HB3.out (Nat.le_refl _)) (Nat.le_refl _)) (Nat.le_refl _)⟩
set_option maxHeartbeats 1600000 in
set_option maxRecDepth 100000 in
/-- No line end behind the bytes. -/
theorem item_noend (b : List Int) (s0 s1 s2 : ByteArray) (rest : List Int) (hw : store_words.f b 3 = some ([s0, s1, s2], rest, 0)) (hk0 : (numF s0 4).2 = 0) (hn0 : (numF s2 1048576).2 = 0) (n : Nat) (hn1 : (numF s2 1048576).1 = (n : Int)) (hlt : n < rest.length) (h10 : rest.getD n 0 ≠ 10) (hrg : 0 ≤ (numF s2 1048576).1 ∧ (numF s2 1048576).1 ≤ 1048576) (hs0 : s0.size ≤ 281474976710656) (hs2 : s2.size ≤ 281474976710656) (A0 : Option Addr) (c0 : Nat) (w : World) (hG : Gl w) (hr : Kd.C (Kd.int .u8) w A0 b.length b) (hc : b.length ≤ c0) :
    Calls Tryz.prog 18 #[.slice A0 b.length c0] w fun r w' => r = .returned (.tuple #[.agg #[.int .u8 0, .string ⟨#[]⟩, .slice none 0 0], .slice none 0 0, .int .i64 5]) ∧ Below w.heap.size w w' := by
  have hu := Tryz.underlying37
  have hb1 : ((numF s2 1048576).2 != 0) = false := by rw [hn0]; rfl
  have hwn : IntKind.i64.wrap (numF s2 1048576).1 = (numF s2 1048576).1 := by rw [IntKind.wrap_i64]; omega
  have hba : Below w.heap.size w (w.alloc (.cells #[.int .u8 0, .string ⟨#[]⟩, .slice none 0 0] 37)) := (Below.refl _ _).alloc (Nat.le_refl _) _
  have hbk := blk_new w (.cells #[.int .u8 0, .string ⟨#[]⟩, .slice none 0 0] 37)
  have HW := Lib.hid (store_words.calls A0 c0 b 3 _ rest 0 _ (Gl.below hba hG) (Kd.C_below hr hba) hc hw)
  have HB := Lib.hid hba
  have HK := Lib.hid hbk
  have HG := Lib.hid hG
  clear hr hba hbk hG
  have hb0 : ((numF s0 4).2 != 0) = false := by rw [hk0]; rfl
  go_enter Tryz.func18, Tryz.ntmps18
  go_wp2_with fail
  refine HW.out.mono ?_
  rintro r w1 ⟨v0, v1, rfl, h0, h1, hb2⟩
  obtain ⟨A1, c1, rfl, hl1, hC1⟩ := Kd.R_reads h0
  obtain ⟨A2, c2, rfl, hl2, hC2⟩ := Kd.R_reads h1
  have HC2 := Lib.hid hC2
  clear hC2
  have hK1 := Lib.hid (blk_below HK.out hb2)
  have HB1 := Lib.hid (below_step HB.out hb2)
  have rd := Kd.reads_of_C (d := (⟨#[]⟩ : ByteArray)) (enc := Value.string) (h1 := fun _ => rfl) hC1
  obtain ⟨ad, rfl, hcell⟩ := rd.2.2 (by simp)
  have x0 : w1.cell? ad = some (.string s0) := hcell 0 (by simp)
  have x2 : w1.cell? ⟨ad.block, ad.off + 2, none⟩ = some (.string s2) := hcell 2 (by simp)
  clear h0 h1 hb2 HW rd hcell hC1
  go_wp2_with fail
  refine (number_calls s0 4 (by decide) hs0 w1 (Gl.below HB1.out HG.out)).mono ?_
  rintro r w2 ⟨rfl, hb3⟩
  have x2b : w2.cell? ⟨ad.block, ad.off + 2, none⟩ = some (.string s2) := (hb3.cell (World.block_lt_of_cell? w1 _ x2)).trans x2
  have hK2 := Lib.hid (blk_below hK1.out hb3)
  have HB2 := Lib.hid (below_step HB1.out hb3)
  have hb3' := hb3
  clear hb3 x0 x2 hK1
  go_wp2_with fail
  refine (number_calls s2 1048576 (by decide) hs2 w2 (Gl.below HB2.out HG.out)).mono ?_
  rintro r w3 ⟨rfl, hb4⟩
  have hK3 := blk_below hK2.out hb4
  have HK3 := Lib.hid hK3
  have q0 : w3.cell? ⟨w.heap.size, 0, none⟩ = some (.int .u8 0) := (blk_cell hK3 0).trans rfl
  have q1 : w3.cell? ⟨w.heap.size, 1, none⟩ = some (.string ⟨#[]⟩) := (blk_cell hK3 1).trans rfl
  have q2 : w3.cell? ⟨w.heap.size, 2, none⟩ = some (.slice none 0 0) := (blk_cell hK3 2).trans rfl
  have hC3 := Kd.C_below (Kd.C_below HC2.out hb3') hb4
  obtain ⟨ad2, rfl, hx⟩ := ReadsOf.at_ (Kd.reads_of_C (d := (0 : Int)) hC3) (n : Int) (by omega) (by omega)
  have hxe : rdOf (0 : Int) rest (n : Int) = rest.getD n 0 := rfl
  rw [hxe, Int.toNat_natCast] at hx
  have hb10 : (rest.getD n 0 != 10) = true := bne_iff_ne.2 h10
  have hlt' : ¬ (rest.length : Int) ≤ (n : Int) := by omega
  rw [hn1] at hwn ⊢
  clear hC3 hxe
  generalize rest.getD n 0 = xx at *
  have z0 := blk_frozen hK3 0
  have z1 := blk_frozen hK3 1
  have z2 := blk_frozen hK3 2
  have HB3 := Lib.hid (below_step HB2.out hb4)
  clear hb4 hK3 x2b hK2
  go_wp2_with fail
  (try simp only [Exit.inBlock, Exit.then])
  have hK5 := blk_set (blk_set (blk_set HK3.out 0 (.int .u8 0)) 1 (.string ⟨#[]⟩)) 2 (.slice none 0 0)
  refine bodyPost_ret (item_results w.heap.size _ _ (.int .u8 0) (.string ⟨#[]⟩) (.slice none 0 0) rfl ((blk_cell hK5 0).trans rfl) ((blk_cell hK5 1).trans rfl) ((blk_cell hK5 2).trans rfl)) rfl ?_
  exact ⟨rfl, below_set (below_set (below_set HB3.out (Nat.le_refl _)) (Nat.le_refl _)) (Nat.le_refl _)⟩
set_option maxHeartbeats 1600000 in
set_option maxRecDepth 100000 in
/-- All is there: the item, if it may be. -/
theorem item_good (b : List Int) (s0 s1 s2 : ByteArray) (rest : List Int) (hw : store_words.f b 3 = some ([s0, s1, s2], rest, 0)) (hk0 : (numF s0 4).2 = 0) (hn0 : (numF s2 1048576).2 = 0) (n : Nat) (hn1 : (numF s2 1048576).1 = (n : Int)) (hlt : n < rest.length) (h10 : rest.getD n 0 = 10) (kk : Int) (hkk : (numF s0 4).1 = kk) (hkr : 0 ≤ kk ∧ kk ≤ 4) (hrl : rest.length ≤ 140737488355328) (hrg : 0 ≤ (numF s2 1048576).1 ∧ (numF s2 1048576).1 ≤ 1048576) (hs0 : s0.size ≤ 281474976710656) (hs2 : s2.size ≤ 281474976710656) (A0 : Option Addr) (c0 : Nat) (w : World) (hG : Gl w) (hr : Kd.C (Kd.int .u8) w A0 b.length b) (hc : b.length ≤ c0) :
    Calls Tryz.prog 18 #[.slice A0 b.length c0] w fun r w' => (fineB ⟨kk, s1, rest.take n⟩ = true ∧ ∃ v A2 c2, r = .returned (.tuple #[.agg #[.int .u8 kk, .string s1, v], .slice A2 (rest.drop (n + 1)).length c2, .int .i64 0]) ∧ Kd.R (Kd.int .u8) 5 w' w.heap.size (fun _ => True) v (rest.take n) ∧ (rest.drop (n + 1)).length ≤ c2 ∧ (∀ W', (∀ k, w.heap.size ≤ k → k < w'.heap.size → W'.heap[k]? = w'.heap[k]?) → Kd.C (Kd.int .u8) W' A2 (rest.drop (n + 1)).length (rest.drop (n + 1))) ∧ Below w.heap.size w w') ∨
      (fineB ⟨kk, s1, rest.take n⟩ = false ∧ ∃ A4 n4 c4, r = .returned (.tuple #[.agg #[.int .u8 kk, .string s1, .slice A4 n4 c4], .slice none 0 0, .int .i64 5]) ∧ Below w.heap.size w w') := by
  have hu := Tryz.underlying37
  have hb1 : ((numF s2 1048576).2 != 0) = false := by rw [hn0]; rfl
  have hwn : IntKind.i64.wrap (numF s2 1048576).1 = (numF s2 1048576).1 := by rw [IntKind.wrap_i64]; omega
  have hba : Below w.heap.size w (w.alloc (.cells #[.int .u8 0, .string ⟨#[]⟩, .slice none 0 0] 37)) := (Below.refl _ _).alloc (Nat.le_refl _) _
  have hbk := blk_new w (.cells #[.int .u8 0, .string ⟨#[]⟩, .slice none 0 0] 37)
  have HW := Lib.hid (store_words.calls A0 c0 b 3 _ rest 0 _ (Gl.below hba hG) (Kd.C_below hr hba) hc hw)
  have HB := Lib.hid hba
  have HK := Lib.hid hbk
  have HG := Lib.hid hG
  clear hr hba hbk hG
  have hb0 : ((numF s0 4).2 != 0) = false := by rw [hk0]; rfl
  go_enter Tryz.func18, Tryz.ntmps18
  go_wp2_with fail
  refine HW.out.mono ?_
  rintro r w1 ⟨v0, v1, rfl, h0, h1, hb2⟩
  obtain ⟨A1, c1, rfl, hl1, hC1⟩ := Kd.R_reads h0
  obtain ⟨A2, c2, rfl, hl2, hC2⟩ := Kd.R_reads h1
  have HRst : Hid (Kd.R (Kd.int .u8) 5 w1 (w.heap.size + 1) (fun _ => True) (.slice A2 rest.length c2) rest) := Lib.hid (Kd.R_lower h1 (by rw [World.size_alloc]; omega))
  clear hC2
  have hK1 := Lib.hid (blk_below HK.out hb2)
  have HB1 := Lib.hid (below_step HB.out hb2)
  have rd := Kd.reads_of_C (d := (⟨#[]⟩ : ByteArray)) (enc := Value.string) (h1 := fun _ => rfl) hC1
  obtain ⟨ad, rfl, hcell⟩ := rd.2.2 (by simp)
  have x0 : w1.cell? ad = some (.string s0) := hcell 0 (by simp)
  have x1 : w1.cell? ⟨ad.block, ad.off + 1, none⟩ = some (.string s1) := hcell 1 (by simp)
  have x2 : w1.cell? ⟨ad.block, ad.off + 2, none⟩ = some (.string s2) := hcell 2 (by simp)
  clear h0 h1 hb2 HW rd hcell hC1
  go_wp2_with fail
  refine (number_calls s0 4 (by decide) hs0 w1 (Gl.below HB1.out HG.out)).mono ?_
  rintro r w2 ⟨rfl, hb3⟩
  have x2b : w2.cell? ⟨ad.block, ad.off + 2, none⟩ = some (.string s2) := (hb3.cell (World.block_lt_of_cell? w1 _ x2)).trans x2
  have x1b : w2.cell? ⟨ad.block, ad.off + 1, none⟩ = some (.string s1) := (hb3.cell (World.block_lt_of_cell? w1 _ x1)).trans x1
  have hK2 := Lib.hid (blk_below hK1.out hb3)
  have HB2 := Lib.hid (below_step HB1.out hb3)
  have hb3' := hb3
  clear hb3 x0 x1 x2 hK1
  go_wp2_with fail
  refine (number_calls s2 1048576 (by decide) hs2 w2 (Gl.below HB2.out HG.out)).mono ?_
  rintro r w3 ⟨rfl, hb4⟩
  have x1c : w3.cell? ⟨ad.block, ad.off + 1, none⟩ = some (.string s1) := (hb4.cell (World.block_lt_of_cell? w2 _ x1b)).trans x1b
  have hK3 := blk_below hK2.out hb4
  have HK3 := Lib.hid hK3
  have z0 := blk_frozen hK3 0
  have z1 := blk_frozen hK3 1
  have z2 := blk_frozen hK3 2
  have HR3 : Hid (Kd.R (Kd.int .u8) 5 w3 (w.heap.size + 1) (fun _ => True) (.slice A2 rest.length c2) rest) := Lib.hid (Kd.R_below (Kd.R_below HRst.out hb3') hb4)
  have HRd := Lib.hid (Kd.reads_of_C (d := (0 : Int)) (Kd.R_reads' HR3.out).2.2)
  obtain ⟨ad2, rfl, hx⟩ := ReadsOf.at_ HRd.out (n : Int) (by omega) (by omega)
  have hxe : rdOf (0 : Int) rest (n : Int) = rest.getD n 0 := rfl
  rw [hxe, Int.toNat_natCast, h10] at hx
  have hlt' : ¬ (rest.length : Int) ≤ (n : Int) := by omega
  have hwk : IntKind.u8.wrap kk = kk := by rw [IntKind.wrap_u8]; omega
  have hwn1 : IntKind.u32.wrap ((n : Int) + 1) = (n : Int) + 1 := by rw [IntKind.wrap_u32]; omega
  rw [hn1] at hwn ⊢
  obtain ⟨i0, hi0, _, hsz0, _⟩ := info_parts info_u8
  obtain ⟨ht, hta⟩ := take_max (P := Tryz.prog) (Value.int .u8) (0 : Int) 23 5 .u32 Tryz.underlying23 hi0 hsz0 (some ad2) c2 rest n (by omega) hl2
  obtain ⟨A5, hd, hda, hdc⟩ := print_drop_of (P := Tryz.prog) (Value.int .u8) (0 : Int) 23 5 .u32 Tryz.underlying23 hi0 hsz0 (some ad2) c2 rest ((n : Int) + 1) (by omega) (by omega) hl2
  have e1 : ((n : Int) + 1).toNat = n + 1 := by omega
  rw [e1] at hd hda hdc
  have HDA := Lib.hid hda
  have h1t := hta _ HRd.out
  have HT1 : Hid ((rest.take n).length ≤ 140737488355328) := Lib.hid (by rw [List.length_take]; omega)
  have HDC := Lib.hid hdc
  have HB3 := Lib.hid (below_step HB2.out hb4)
  have HFN := Lib.hid (fun (A : Option Addr) (c : Nat) (W : World) => fine_calls ⟨kk, s1, rest.take n⟩ A c W)
  have C1 := Lib.hid (Kd.C_drew (Kd.C_of_reads (h1 := fun _ => rfl) h1t))
  clear hta hda hxe hdc h1t hi0 hsz0 hrg hkr hn1 hw hlt h10 e1 HRst HRd hb3' x1b x2b hK2 HB2 hb4 hK3 hrl hk0 hn0 hkk
  have HKC := Lib.hid (fun W hC => bytes_Clone.calls (some ad2) (rest.take n).length (rest.take n) (rest.take n) W hC (Nat.le_refl _) (by unfold bytes_Clone.f; rw [if_pos HT1.out]))
  clear HT1
  generalize hL1 : rest.take n = l1 at *
  generalize hL2 : rest.drop (n + 1) = l2 at *
  go_wp2_with fail
  go_region_law (first
    | (go_simp; go_at_call 35; refine (HKC.out _ C1.out).mono ?_; rintro e w4 ⟨v4, rfl, hv4, hb5⟩; obtain ⟨A4, c4, rfl⟩ := Kd.R_slice hv4; have hK4 := blk_below (blk_drew HK3.out) hb5; have q40 : w4.cell? ⟨w.heap.size, 0, none⟩ = some (.int .u8 0) := (blk_cell hK4 0).trans rfl; have q41 : w4.cell? ⟨w.heap.size, 1, none⟩ = some (.string ⟨#[]⟩) := (blk_cell hK4 1).trans rfl; have q42 : w4.cell? ⟨w.heap.size, 2, none⟩ = some (.slice none 0 0) := (blk_cell hK4 2).trans rfl; have z40 := blk_frozen hK4 0; have z41 := blk_frozen hK4 1; have z42 := blk_frozen hK4 2; have x1d : w4.cell? ⟨ad.block, ad.off + 1, none⟩ = some (.string s1) := (hb5.cell (World.block_lt_of_cell? w3.drew _ x1c)).trans x1c))
  all_goals
    have hlt4 : w.heap.size < w3.heap.size := blk_lt HK3.out
    have hV4 : Kd.R (Kd.int .u8) 5 w4 w.heap.size (fun k => k ≠ w.heap.size) (.slice A4 l1.length c4) l1 := Kd.R_lower (Kd.R_mono (Kd.R_bound hv4) (fun k hk => by have := hk.2.1; have e : w3.drew.heap.size = w3.heap.size := rfl; omega)) (by have e : w3.drew.heap.size = w3.heap.size := rfl; omega)
    have hR4 : Kd.R (Kd.int .u8) 5 w4 (w.heap.size + 1) (fun k => k ≠ w.heap.size) (.slice (some ad2) rest.length c2) rest := Kd.R_mono (Kd.R_bound (Kd.R_below (Kd.R_drew HR3.out) hb5)) (fun k hk => by have := hk.2.1; omega)
    have f8 : Below w.heap.size w (((w4.setCell ⟨w.heap.size, 0, none⟩ (.int .u8 kk)).setCell ⟨w.heap.size, 1, none⟩ (.string s1)).setCell ⟨w.heap.size, 2, none⟩ (.slice A4 l1.length c4)) ∧
        (((w4.setCell ⟨w.heap.size, 0, none⟩ (.int .u8 kk)).setCell ⟨w.heap.size, 1, none⟩ (.string s1)).setCell ⟨w.heap.size, 2, none⟩ (.slice A4 l1.length c4)).heap[w.heap.size]? = some (.cells #[.int .u8 kk, .string s1, .slice A4 l1.length c4] 37 (0, 0)) ∧
        Kd.R (Kd.int .u8) 5 (((w4.setCell ⟨w.heap.size, 0, none⟩ (.int .u8 kk)).setCell ⟨w.heap.size, 1, none⟩ (.string s1)).setCell ⟨w.heap.size, 2, none⟩ (.slice A4 l1.length c4)) w.heap.size (fun k => k ≠ w.heap.size) (.slice A4 l1.length c4) l1 ∧
        Kd.R (Kd.int .u8) 5 (((w4.setCell ⟨w.heap.size, 0, none⟩ (.int .u8 kk)).setCell ⟨w.heap.size, 1, none⟩ (.string s1)).setCell ⟨w.heap.size, 2, none⟩ (.slice A4 l1.length c4)) (w.heap.size + 1) (fun k => k ≠ w.heap.size) (.slice (some ad2) rest.length c2) rest :=
      ⟨below_set (below_set (below_set (below_step (below_drew1 HB3.out) hb5) (Nat.le_refl _)) (Nat.le_refl _)) (Nat.le_refl _), blk_set (blk_set (blk_set hK4 0 _) 1 _) 2 _, Kd.R_far (Kd.R_far (Kd.R_far hV4 (fun _ h => h) _) (fun _ h => h) _) (fun _ h => h) _, Kd.R_far (Kd.R_far (Kd.R_far hR4 (fun _ h => h) _) (fun _ h => h) _) (fun _ h => h) _⟩
    clear hV4 hR4 hv4 hK4 z40 z41 z42 q40 q41 q42 x1c x1d z0 z1 z2 hx ht hwk hwn
    generalize (((w4.setCell ⟨w.heap.size, 0, none⟩ (.int .u8 kk)).setCell ⟨w.heap.size, 1, none⟩ (.string s1)).setCell ⟨w.heap.size, 2, none⟩ (.slice A4 l1.length c4)) = W8 at *
    obtain ⟨hB8, hK8, hV8, hR8⟩ := f8
    have q80 : W8.cell? ⟨w.heap.size, 0, none⟩ = some (.int .u8 kk) := (blk_cell hK8 0).trans rfl
    have q81 : W8.cell? ⟨w.heap.size, 1, none⟩ = some (.string s1) := (blk_cell hK8 1).trans rfl
    have q82 : W8.cell? ⟨w.heap.size, 2, none⟩ = some (.slice A4 l1.length c4) := (blk_cell hK8 2).trans rfl
    have HB8 := Lib.hid hB8
    have HK8 := Lib.hid hK8
    have HV8 := Lib.hid hV8
    have HR8 := Lib.hid hR8
    clear hB8 hK8 hV8 hR8 hb5 hlt4 HKC C1 HR3
    go_wp2_with fail
    refine (HFN.out A4 c4 W8).mono ?_
    rintro r w6 ⟨rfl, hb6⟩
    have hK6 := blk_below HK8.out hb6
    have q60 : w6.cell? ⟨w.heap.size, 0, none⟩ = some (.int .u8 kk) := (blk_cell hK6 0).trans rfl
    have q61 : w6.cell? ⟨w.heap.size, 1, none⟩ = some (.string s1) := (blk_cell hK6 1).trans rfl
    have q62 : w6.cell? ⟨w.heap.size, 2, none⟩ = some (.slice A4 l1.length c4) := (blk_cell hK6 2).trans rfl
    have z60 := blk_frozen hK6 0
    have z61 := blk_frozen hK6 1
    have z62 := blk_frozen hK6 2
    have HK6 := Lib.hid hK6
    have HB6 := Lib.hid (below_step HB8.out hb6)
    have HV6 := Lib.hid (Kd.R_below HV8.out hb6)
    have HR6 := Lib.hid (Kd.R_below HR8.out hb6)
    clear hK6 hb6 q80 q81 q82 HFN
    cases hf : fineB ⟨kk, s1, l1⟩
    · clear hd HDA
      go_wp2_with fail
      (try simp only [Exit.inBlock, Exit.then])
      have hK9 := blk_set (blk_set (blk_set HK6.out 0 (.int .u8 kk)) 1 (.string s1)) 2 (.slice A4 l1.length c4)
      refine bodyPost_ret (item_results w.heap.size _ _ (.int .u8 kk) (.string s1) (.slice A4 l1.length c4) rfl ((blk_cell hK9 0).trans rfl) ((blk_cell hK9 1).trans rfl) ((blk_cell hK9 2).trans rfl)) rfl ?_
      rw [hL1]
      exact .inr ⟨hf, ⟨_, _, _, rfl, below_set (below_set (below_set HB6.out (Nat.le_refl _)) (Nat.le_refl _)) (Nat.le_refl _)⟩⟩
    · go_wp2_with fail
      go_region_law (fail)
      go_wp2_with fail
      (try simp only [Exit.inBlock, Exit.then])
      have hK9 := blk_set (blk_set (blk_set (blk_drew HK6.out) 0 (.int .u8 kk)) 1 (.string s1)) 2 (.slice A4 l1.length c4)
      refine bodyPost_ret (item_results w.heap.size _ _ (.int .u8 kk) (.string s1) (.slice A4 l1.length c4) rfl ((blk_cell hK9 0).trans rfl) ((blk_cell hK9 1).trans rfl) ((blk_cell hK9 2).trans rfl)) rfl ?_
      have hR9 := Kd.R_far (Kd.R_far (Kd.R_far (Kd.R_drew HR6.out) (fun _ h => h) (p := ⟨w.heap.size, 0, none⟩) (.int .u8 kk)) (fun _ h => h) (p := ⟨w.heap.size, 1, none⟩) (.string s1)) (fun _ h => h) (p := ⟨w.heap.size, 2, none⟩) (.slice A4 l1.length c4)
      rw [hL1, hL2]
      refine .inl ⟨hf, _, _, _, rfl, Kd.R_mono (Kd.R_far (Kd.R_far (Kd.R_far (Kd.R_drew HV6.out) (fun _ h => h) _) (fun _ h => h) _) (fun _ h => h) _) (fun _ _ => trivial), HDC.out, ?_, below_set (below_set (below_set (below_drew1 HB6.out) (Nat.le_refl _)) (Nat.le_refl _)) (Nat.le_refl _)⟩
      intro W' hW
      exact Kd.C_of_reads (h1 := fun _ => rfl) (HDA.out _ (Kd.reads_of_C (d := (0 : Int)) (Kd.R_reads' (Kd.R_step (Kd.R_mono (Kd.R_bound hR9) (ok' := fun k => w.heap.size ≤ k) (fun k hk => by have := hk.2.1; omega)) hW)).2.2))
def ItemPost (b : List Int) (w : World) (r : Ending) (w' : World) : Prop :=
  ∃ k s A1 n1 c1 A2 c2, r = .returned (.tuple #[.agg #[.int .u8 k, .string s, .slice A1 n1 c1], .slice A2 (itemF b).2.1.length c2, .int .i64 (itemF b).2.2]) ∧
      ((itemF b).2.2 = 0 → k = (itemF b).1.f0 ∧ s = (itemF b).1.f1 ∧ n1 = (itemF b).1.f2.length ∧ Kd.R (Kd.int .u8) 5 w' w.heap.size (fun _ => True) (.slice A1 n1 c1) (itemF b).1.f2 ∧ (itemF b).2.1.length ≤ c2 ∧ (∀ W', (∀ k, w.heap.size ≤ k → k < w'.heap.size → W'.heap[k]? = w'.heap[k]?) → Kd.C (Kd.int .u8) W' A2 (itemF b).2.1.length (itemF b).2.1)) ∧ Below w.heap.size w w'
/-- store.item. -/
theorem item_calls (b : List Int) (hlen : b.length ≤ 1048576) (hbt : ∀ c ∈ b, 0 ≤ c ∧ c < 256) (A0 : Option Addr) (c0 : Nat) (w : World) (hG : Gl w) (hr : Kd.C (Kd.int .u8) w A0 b.length b) (hc : b.length ≤ c0) :
    Calls Tryz.prog 18 #[.slice A0 b.length c0] w fun r w' => ItemPost b w r w' := by
  obtain ⟨ws, rest, e, hw, he⟩ := store_words_some b hlen 3
  have bad : ∀ z : Int, z ≠ 0 → itemF b = (noIt, [], z) → (Calls Tryz.prog 18 #[.slice A0 b.length c0] w fun r w' => r = .returned (.tuple #[.agg #[.int .u8 0, .string ⟨#[]⟩, .slice none 0 0], .slice none 0 0, .int .i64 z]) ∧ Below w.heap.size w w') → Calls Tryz.prog 18 #[.slice A0 b.length c0] w fun r w' => ItemPost b w r w' := fun z hz hi h => h.mono (by
    rintro r w' ⟨rfl, hb⟩
    unfold ItemPost
    rw [hi]
    exact ⟨_, _, _, _, _, _, _, rfl, fun h => absurd h hz, hb⟩)
  by_cases h0 : e = 0
  · subst h0
    obtain ⟨hb, hl3, hws⟩ := store_words_back b 3 (by omega) ws rest hbt hw
    obtain ⟨s0, s1, s2, rfl⟩ : ∃ s0 s1 s2, ws = [s0, s1, s2] := by
      match ws, hl3 with
      | [a, b, c], _ => exact ⟨a, b, c, rfl⟩
    have hsz : ∀ s ∈ [s0, s1, s2], s.size ≤ 281474976710656 := fun s hs => by
      have h1 := head_len _ s hs
      have h2 := congrArg List.length hb
      rw [List.length_append] at h2
      omega
    have hs0 := hsz s0 (by simp)
    have hs2 := hsz s2 (by simp)
    have hrl : rest.length ≤ 140737488355328 := by
      have h2 := congrArg List.length hb
      rw [List.length_append] at h2
      omega
    have hI : itemF b = if (numF s0 4).2 = 0 ∧ (numF s2 1048576).2 = 0 ∧ (numF s2 1048576).1 < rest.length ∧ rest.getD (numF s2 1048576).1.toNat 0 = 10 then
        (if fineB ⟨(numF s0 4).1, s1, rest.take (numF s2 1048576).1.toNat⟩ then (⟨(numF s0 4).1, s1, rest.take (numF s2 1048576).1.toNat⟩, rest.drop ((numF s2 1048576).1.toNat + 1), 0) else (noIt, [], 5)) else (noIt, [], 5) := by
      unfold itemF
      rw [hw]
      rfl
    by_cases hk0 : (numF s0 4).2 = 0
    · by_cases hn0 : (numF s2 1048576).2 = 0
      · obtain ⟨k, hk, hk4, _⟩ := numF_back s0 4 hk0
        obtain ⟨n, hn, hn4, _⟩ := numF_back s2 1048576 hn0
        rw [hk, hn, Int.toNat_natCast] at hI
        by_cases hlt : n < rest.length
        · by_cases h10 : rest.getD n 0 = 10
          · rw [if_pos ⟨hk0, hn0, by omega, h10⟩] at hI
            refine (item_good b s0 s1 s2 rest hw hk0 hn0 n hn hlt h10 k hk ⟨by omega, hk4⟩ hrl ⟨by omega, by omega⟩ hs0 hs2 A0 c0 w hG hr hc).mono ?_
            unfold ItemPost
            rintro r w' (⟨hf, v, A2, c2, rfl, hv, hc2, hC, hb'⟩ | ⟨hf, A4, n4, c4, rfl, hb'⟩)
            · rw [if_pos hf] at hI
              rw [hI]
              obtain ⟨A1, c1, rfl⟩ := Kd.R_slice hv
              exact ⟨_, _, _, _, _, _, _, rfl, fun _ => ⟨rfl, rfl, rfl, hv, hc2, hC⟩, hb'⟩
            · rw [if_neg (by rw [hf]; decide)] at hI
              rw [hI]
              exact ⟨_, _, _, _, _, _, _, rfl, fun h => absurd h (by decide), hb'⟩
          · rw [if_neg (fun h => h10 h.2.2.2)] at hI
            exact bad 5 (by decide) hI (item_noend b s0 s1 s2 rest hw hk0 hn0 n hn hlt h10 ⟨by omega, by omega⟩ hs0 hs2 A0 c0 w hG hr hc)
        · rw [if_neg (fun h => hlt (by have := h.2.2.1; omega))] at hI
          exact bad 5 (by decide) hI (item_short b s0 s1 s2 rest hw hk0 hn0 (by omega) ⟨by omega, by omega⟩ hs0 hs2 A0 c0 w hG hr hc)
      · rw [if_neg (fun h => hn0 h.2.1)] at hI
        exact bad 5 (by decide) hI (item_number_bad2 b s0 s1 s2 rest hw hk0 hn0 hs0 hs2 A0 c0 w hG hr hc)
    · rw [if_neg (fun h => hk0 h.1)] at hI
      exact bad 5 (by decide) hI (item_number_bad b s0 s1 s2 rest hw hk0 hs0 hs2 A0 c0 w hG hr hc)
  · have hI : itemF b = (noIt, [], e) := by
      unfold itemF
      rw [hw]
      exact if_neg h0
    exact bad e h0 hI (item_words_bad b ws rest e hw h0 A0 c0 w hG hr hc)
end Go.Proofs.YtfnahihdkbgleaaGreatDoor.Z

namespace Go.Proofs.YtfnahihdkbgleaaGreatDoor.Z
set_option linter.unusedVariables false
open Go.RowKit Go.Proofs.YtfnahihdkbgleaaGreatDoorW.PrintWords Go.Proofs.YtfnahihdkbgleaaGreatDoorW.PrintWords.Kd
theorem itemF_rest (b : List Int) (hbt : ∀ c ∈ b, 0 ≤ c ∧ c < 256) : (∀ c ∈ (itemF b).2.1, c ∈ b) ∧ (itemF b).2.1.length ≤ b.length := by
  unfold itemF
  split
  · rename_i ws rest e hw
    split
    · rename_i he
      subst he
      obtain ⟨hb, _⟩ := store_words_back b 3 (by omega) ws rest hbt hw
      split
      · split
        · refine ⟨fun c hc => ?_, ?_⟩
          · rw [hb]
            exact List.mem_append_right _ (List.mem_of_mem_drop hc)
          · have h2 := congrArg List.length hb
            rw [List.length_append] at h2
            simp only [List.length_drop]
            omega
        · exact ⟨fun c hc => by simp at hc, Nat.zero_le _⟩
      · exact ⟨fun c hc => by simp at hc, Nat.zero_le _⟩
    · exact ⟨fun c hc => by simp at hc, Nat.zero_le _⟩
  · exact ⟨fun c hc => by simp at hc, Nat.zero_le _⟩
theorem bodyF_take (b : List Int) (h : (bodyF b).2 = 0) : ∃ j, (bodyF b).1 = b.take j := by
  unfold bodyF at h ⊢
  split at h
  · rename_i h1
    rw [if_pos h1]
    split at h
    · rename_i h2
      rw [if_pos h2]
      split at h
      · rename_i h3
        rw [if_pos h3]
        exact ⟨_, rfl⟩
      · cases h
    · cases h
  · cases h
theorem inq_list : inq.toList = [105, 110, 113, 117, 101, 115, 116] := ByteArray.toList_eq inq
structure GetAt (w : World) (b : List Int) (m k : Nat) (acc : List It) (bb : List Int) (A : Option Addr) (c : Nat) (Av : Option Addr) (cv : Nat) (wr : World) : Prop where
  span : ∃ lo hi, hi ≤ wr.heap.size ∧ (∀ W', (∀ k, lo ≤ k → k < hi → W'.heap[k]? = wr.heap[k]?) → Kd.C (Kd.int .u8) W' A bb.length bb) ∧ ∀ k, (Value.slice Av acc.length cv).ownBlock = some k → k < lo ∨ hi ≤ k
  cap : bb.length ≤ c
  own : Kd.S k37 37 wr w.heap.size (fun _ => True) (.slice Av acc.length cv) acc
  res : getLoop (m - k) acc bb = getF b
  len : bb.length ≤ 1048576
  byt : ∀ c ∈ bb, 0 ≤ c ∧ c < 256
  many : acc.length = k
  below : Below w.heap.size w wr
theorem GetAt.read {w : World} {b : List Int} {m k : Nat} {acc : List It} {bb : List Int} {A : Option Addr} {c : Nat} {Av : Option Addr} {cv : Nat} {wr : World} (h : GetAt w b m k acc bb A c Av cv wr) : Kd.C (Kd.int .u8) wr A bb.length bb := by
  obtain ⟨lo, hi, _, h1, _⟩ := h.span
  exact h1 wr (fun _ _ _ => rfl)
theorem info29b : (Tryz.prog.info? 37).map (fun i => (i.zero, i.size, i.bytes)) = some (some (.agg #[.int .u8 0, .string ⟨#[]⟩, .slice none 0 0]), 3, 48) := by kernel_rfl
set_option maxHeartbeats 6400000 in
set_option maxRecDepth 100000 in
theorem get_calls (b : List Int) (hbt : ∀ c ∈ b, 0 ≤ c ∧ c < 256) (A0 : Option Addr) (c0 : Nat) (w : World) (hG : Gl w) (hr : Kd.C (Kd.int .u8) w A0 b.length b) (hc : b.length ≤ c0) :
    Calls Tryz.prog 9 #[.slice A0 b.length c0] w fun e w' => (∃ v, e = .returned (.tuple #[v, .int .i64 (getF b).2]) ∧ Kd.S k37 37 w' w.heap.size (fun _ => True) v (getF b).1) ∧ Below w.heap.size w w' := by
  by_cases hlim : 1048576 < b.length
  · have HF : Hid (getF b = ([], 3)) := Lib.hid (by unfold getF; rw [if_pos hlim])
    have hlt : 1048576 < (b.length : Int) := by omega
    clear hr hbt hlim
    go_enter Tryz.func9, Tryz.ntmps9
    go_wp2_with fail
    go_ret2
    rw [HF.out]
    exact ⟨⟨_, rfl, Kd.S_nil _ _ _ _ _⟩, Below.refl _ _⟩
  · have hlt' : ¬ (1048576 < (b.length : Int)) := by omega
    have HBC := Lib.hid (body_calls b (by omega) hbt A0 c0 w hG hr hc)
    by_cases hb0 : (bodyF b).2 = 0
    · obtain ⟨j, hj⟩ := bodyF_take b hb0
      have hpl : (bodyF b).1.length ≤ b.length := by rw [hj, List.length_take]; omega
      have hC1 : Kd.C (Kd.int .u8) w A0 (bodyF b).1.length (bodyF b).1 := by
        rw [hj, List.take_eq_take_min]
        exact Kd.C_take hr (Nat.min_le_right _ _)
      have hbt1 : ∀ c ∈ (bodyF b).1, 0 ≤ c ∧ c < 256 := fun c hc => hbt c (by rw [hj] at hc; exact List.mem_of_mem_take hc)
      have hv : bodyV A0 c0 (bodyF b) = .slice A0 (bodyF b).1.length c0 := if_pos hb0
      have HF : Hid (getF b = headF (bodyF b).1) := Lib.hid (by unfold getF; rw [if_neg hlim, if_neg (fun h => h hb0)])
      rw [hv, hb0] at HBC
      clear hv hj hr hb0
      generalize (bodyF b).1 = p at *
      obtain ⟨ws, rest, e, hw, he⟩ := store_words_some p (by omega) 2
      have HG := Lib.hid hG
      have HW := Lib.hid (fun (W : World) (hb : Below w.heap.size w W) => store_words.calls A0 c0 p 2 ws rest e W (Gl.below hb HG.out) (Kd.C_below hC1 hb) (by omega) hw)
      clear hC1 hG
      go_enter Tryz.func9, Tryz.ntmps9
      go_wp2_with fail
      refine HBC.out.mono ?_
      rintro r w1 ⟨rfl, hb1⟩
      have HB1 := Lib.hid hb1
      clear hb1 HBC
      go_wp2_with fail
      refine (HW.out _ HB1.out).mono ?_
      rintro r w2 ⟨v0, v1, rfl, h0, h1, hb2⟩
      have HB2 := Lib.hid (below_step HB1.out hb2)
      clear hb2 HW
      by_cases he0 : e = 0
      · subst he0
        clear he
        obtain ⟨hbb, hl2, hws⟩ := store_words_back p 2 (by omega) ws rest hbt1 hw
        obtain ⟨s0, s1, rfl⟩ : ∃ s0 s1, ws = [s0, s1] := by
          match ws, hl2 with
          | [a, b], _ => exact ⟨a, b, rfl⟩
        have hs1 : s1.size ≤ 281474976710656 := by
          have h1 := head_len _ s1 (by simp : s1 ∈ [s0, s1])
          have h2 := congrArg List.length hbb
          rw [List.length_append] at h2
          omega
        have hrl : rest.length ≤ 1048576 := by
          have h2 := congrArg List.length hbb
          rw [List.length_append] at h2
          omega
        have hbr : ∀ c ∈ rest, 0 ≤ c ∧ c < 256 := fun c hc => hbt1 c (by rw [hbb]; exact List.mem_append_right _ hc)
        have HH : Hid (getF b = if s0.toList ≠ inq.toList then ([], 5) else if (numF s1 256).2 ≠ 0 then ([], (numF s1 256).2) else getLoop (numF s1 256).1.toNat [] rest) := Lib.hid (by
          rw [HF.out]
          unfold headF
          rw [hw]
          rfl)
        clear hw hbb hl2 hws HF hbt1 hbt hlt' hlim hpl
        obtain ⟨A1, c1, rfl, hl1, hC1⟩ := Kd.R_reads h0
        obtain ⟨A2, c2, rfl, hl2, hC2⟩ := Kd.R_reads h1
        have rd := Kd.reads_of_C (d := (⟨#[]⟩ : ByteArray)) (enc := Value.string) (h1 := fun _ => rfl) hC1
        obtain ⟨ad, rfl, hcell⟩ := rd.2.2 (by simp)
        have x0 : w2.cell? ad = some (.string s0) := hcell 0 (by simp)
        have x1 : w2.cell? ⟨ad.block, ad.off + 1, none⟩ = some (.string s1) := hcell 1 (by simp)
        have HC2 : Hid (∀ W', (∀ k, w1.heap.size ≤ k → k < w2.heap.size → W'.heap[k]? = w2.heap[k]?) → Kd.C (Kd.int .u8) W' (A2) rest.length rest) := Lib.hid (fun W' hW => (Kd.R_reads' (Kd.R_step (Kd.R_mono (Kd.R_bound h1) (ok' := fun k => w1.heap.size ≤ k) (fun k hk => hk.2.1)) hW)).2.2)
        clear h0 h1 rd hcell hC1 hC2
        by_cases hq : s0.toList = inq.toList
        · have hqb : (s0.toList == [105, 110, 113, 117, 101, 115, 116]) = true := by rw [hq, inq_list]; rfl
          have HH1 : Hid (getF b = if (numF s1 256).2 ≠ 0 then ([], (numF s1 256).2) else getLoop (numF s1 256).1.toNat [] rest) := Lib.hid (by rw [HH.out, if_neg (fun h => h hq)])
          clear HH hq
          go_wp2_with fail
          refine (number_calls s1 256 (by decide) hs1 w2 (Gl.below HB2.out HG.out)).mono ?_
          rintro r w3 ⟨rfl, hb3⟩
          have HB3 := Lib.hid (below_step HB2.out hb3)
          have HC3 : Hid (∀ W', (∀ k, w1.heap.size ≤ k → k < w2.heap.size → W'.heap[k]? = w3.heap[k]?) → Kd.C (Kd.int .u8) W' A2 rest.length rest) := Lib.hid (fun W' hW => HC2.out W' (fun k h1 h2 => (hW k h1 h2).trans (hb3.block k h2)))
          have hsz3 := hb3.size
          clear hb3 x0 x1 HC2
          by_cases hn : (numF s1 256).2 = 0
          · obtain ⟨m, hm, hm2, _⟩ := numF_back s1 256 hn
            have HH2 : Hid (getF b = getLoop m [] rest) := Lib.hid (by rw [HH1.out, if_neg (fun h => h hn), hm, Int.toNat_natCast])
            rw [hn, hm]
            clear HH1 hn hm hqb
            go_wp2_with fail
            go_loopw [0, 2, 45] (fun bs ls i wr => ∃ (k : Nat) (acc : List It) (bb : List Int) (A : Option Addr) (c : Nat) (Av : Option Addr) (cv : Nat), k ≤ m ∧ bs = .slice A bb.length c ∧ ls = .slice Av acc.length cv ∧ i = .int .u32 (k : Int) ∧ Hid (GetAt w b m k acc bb A c Av cv wr)) (fun _ _ i _ => m - (intOf i).toNat)
            case atStart => exact ⟨0, [], rest, A2, c2, none, 0, Nat.zero_le _, rfl, rfl, rfl, Lib.hid ⟨⟨w1.heap.size, w2.heap.size, hsz3, HC3.out, fun k h => by simp [Value.ownBlock] at h⟩, hl2, Kd.S_nil _ _ _ _ _, HH2.out.symm, hrl, hbr, rfl, HB3.out⟩⟩
            case round =>
              clear HB3 HC3 HH2 HB1 HB2 hbr hl2 hrl
              obtain ⟨k, acc, bb, A, c, Av, cv, hk, rfl, rfl, rfl, HA⟩ := hrel
              by_cases hlt : k < m
              · have hlt' : (k : Int) < (m : Int) := by omega
                have hm256 : m ≤ 256 := by omega
                have HI := Lib.hid (item_calls bb HA.out.len HA.out.byt A c wr (Gl.below HA.out.below HG.out) HA.out.read HA.out.cap)
                have hu := Tryz.underlying37
                have HL : Hid (getF b = if (itemF bb).2.2 ≠ 0 then ([], (itemF bb).2.2) else if hasB acc (itemF bb).1.f1 then ([], 8) else getLoop (m - (k + 1)) (acc ++ [(itemF bb).1]) (itemF bb).2.1) := Lib.hid (by
                  rw [← HA.out.res, show m - k = (m - (k + 1)) + 1 by omega]
                  rfl)
                obtain ⟨hrest, hrestl⟩ := itemF_rest bb HA.out.byt
                have HRest := Lib.hid hrest
                clear hrest
                go_wp2_with fail
                refine HI.out.mono ?_
                rintro r w4 ⟨kx, sx, A1, n1, c1', A3, c3, rfl, himp, hb4⟩
                have HIm := Lib.hid himp
                have HB4 := Lib.hid hb4
                clear himp hb4 HI
                generalize (itemF bb).2.2 = e at *
                generalize (itemF bb).2.1 = rest' at *
                generalize (itemF bb).1 = x at *
                by_cases he : e = 0
                · subst he
                  obtain ⟨rfl, rfl, rfl, hRx, hc3, hC3⟩ := HIm.out rfl
                  have HL1 : Hid (getF b = if hasB acc x.f1 then ([], 8) else getLoop (m - (k + 1)) (acc ++ [x]) rest') := Lib.hid (by rw [HL.out]; exact if_neg (fun h => h rfl))
                  have hR4 : Kd.R (Kd.int .u8) 5 w4 w.heap.size (fun k => wr.heap.size ≤ k) (.slice A1 x.f2.length c1') x.f2 := Kd.R_lower (Kd.R_mono (Kd.R_bound hRx) (fun k hk => hk.2.1)) HA.out.below.size
                  have HR4 := Lib.hid hR4
                  have HC4 := Lib.hid hC3
                  have HS4 : Hid (Kd.S k37 37 wr w.heap.size (fun k => True ∧ ¬ wr.heap.size ≤ k) (.slice Av acc.length cv) acc) := Lib.hid (Kd.S_mono (Kd.S_bound HA.out.own) (fun k hk => ⟨trivial, by have := hk.2.2.1; omega⟩))
                  have f5 : Below w4.heap.size w4 (w4.alloc (.cells #[.int .u8 x.f0, .string x.f1, .slice A1 x.f2.length c1'] 37)) ∧
                      (w4.alloc (.cells #[.int .u8 x.f0, .string x.f1, .slice A1 x.f2.length c1'] 37)).heap[w4.heap.size]? = some (.cells #[.int .u8 x.f0, .string x.f1, .slice A1 x.f2.length c1'] 37 (0, 0)) :=
                    ⟨below_alloc (Below.refl _ _) _, blk_new w4 _⟩
                  clear hRx hR4 hC3 HIm HL
                  go_wp2_with fail
                  generalize (w4.alloc (.cells #[.int .u8 x.f0, .string x.f1, .slice A1 x.f2.length c1'] 37)) = W5 at *
                  obtain ⟨hb5, hK5⟩ := f5
                  have hw5 := below_then HB4.out HB4.out.size hb5
                  refine (has_calls acc x.f1 w4.heap.size (by have := HA.out.many; omega) Av cv W5 (Kd.S_reads' (Kd.S_below HA.out.own hw5)).2.2 (Kd.S_reads' HA.out.own).2.1 ((blk_cell hK5 1).trans rfl)).mono ?_
                  rintro r w6 ⟨rfl, hb6⟩
                  have hK6 := blk_below hK5 hb6
                  have q60 : w6.cell? ⟨w4.heap.size, 0, none⟩ = some (.int .u8 x.f0) := (blk_cell hK6 0).trans rfl
                  have q61 : w6.cell? ⟨w4.heap.size, 1, none⟩ = some (.string x.f1) := (blk_cell hK6 1).trans rfl
                  have q62 : w6.cell? ⟨w4.heap.size, 2, none⟩ = some (.slice A1 x.f2.length c1') := (blk_cell hK6 2).trans rfl
                  have hw46 := Lib.hid (below_then hb5 hb5.size hb6)
                  have hw6 := Lib.hid (below_then hw5 hw5.size hb6)
                  clear hb5 hK5 hw5 hb6 hK6
                  cases hh : hasB acc x.f1
                  · have HL2 : Hid (getF b = getLoop (m - (k + 1)) (acc ++ [x]) rest') := Lib.hid (by rw [HL1.out, if_neg (by rw [hh]; decide)])
                    have hlk : (acc.length + 1) * 48 ≤ 140737488355328 := by have := HA.out.many; omega
                    clear HL1 hh
                    have hlt6 := (HA.out.below).size
                    have hsz6 := hw6.out.size
                    go_wp2_with (at_builtin; refine Kd.S_append k37 (w0 := w) w.heap.size rfl _ _ 22 37 (.agg #[.int .u8 0, .string ⟨#[]⟩, .slice none 0 0]) 48 rfl Tryz.underlying22 info29b rfl (by decide) (by decide) (.slice Av acc.length cv) acc x [.int .u8 x.f0, .string x.f1, .slice A1 x.f2.length c1'] (fun _ => True) (fun k => wr.heap.size ≤ k) rfl rfl ?hp ?hokp (fun _ _ => trivial) ?HO ?HB ?hbase hlk ?_)
                    case hp => exact k37_mkM _ _ _ x (Kd.R_below HR4.out hw46.out)
                    case hokp => exact fun k hk => ⟨trivial, fun e => by have := Kd.S_lt HA.out.own k e.symm; omega⟩
                    case HO => exact Kd.S_below HS4.out hw6.out
                    case HB => exact below_then HA.out.below HA.out.below.size hw6.out
                    case hbase => omega
                    intro v1 w7 hS7 hB7 hg7 hat
                    obtain ⟨acc', hacc'⟩ : ∃ a, a = acc ++ [x] := ⟨_, rfl⟩
                    rw [← hacc'] at hS7
                    obtain ⟨Av', cv', rfl⟩ := Kd.S_slice hS7
                    have HN : Hid (GetAt w b m (k + 1) acc' rest' A3 c3 Av' cv' w7) := Lib.hid {
                      span := ⟨wr.heap.size, w4.heap.size, by have := hB7.size; have := hg7.size; have := hw46.out.size; omega, fun W' hW => HC4.out W' (fun k h1 h2 => by
                        rw [hW k h1 h2, hg7.block k (by have := hw46.out.size; omega) (fun e => by have := Kd.S_lt HA.out.own k e.symm; omega), hw46.out.block k h2]), fun k hk => by
                          rcases hat with e | ⟨q, e, hq⟩
                          · left
                            exact Kd.S_lt HA.out.own k (by rw [← e]; exact hk)
                          · right
                            have : k = q := Option.some.inj (hk.symm.trans e)
                            have := hw46.out.size
                            omega⟩
                      cap := hc3
                      own := hS7
                      res := by rw [hacc']; exact HL2.out.symm
                      len := by have := HA.out.len; omega
                      byt := fun c hc => HA.out.byt c (HRest.out c hc)
                      many := by rw [hacc', List.length_append, HA.out.many]; rfl
                      below := hB7 }
                    have hwk1 : IntKind.u32.wrap ((k : Int) + 1) = (k : Int) + 1 := by rw [IntKind.wrap_u32]; omega
                    clear hS7 hB7 hg7 hat hacc' HA HL2 HC4 HR4 HS4 q60 q61 q62 hw46 hw6 HB4 HRest hc3 hrestl hlk
                    go_wp2_with fail
                    go_roundw
                    case rel => exact ⟨k + 1, acc', rest', A3, c3, Av', cv', hlt, rfl, rfl, by go_num, HN⟩
                    case measure =>
                      simp [intOf]
                      omega
                  · have HL2 : Hid (getF b = ([], 8)) := Lib.hid (by rw [HL1.out, if_pos hh])
                    clear HL1 hh
                    go_wp2_with fail
                    go_ret2
                    rw [HL2.out]
                    exact ⟨⟨_, rfl, Kd.S_nil _ _ _ _ _⟩, below_then HA.out.below HA.out.below.size hw6.out⟩
                · have heb : (e != 0) = true := bne_iff_ne.2 he
                  have HL' : Hid (getF b = ([], e)) := Lib.hid (by rw [HL.out]; exact if_pos he)
                  clear HL
                  go_wp2_with fail
                  go_ret2
                  rw [HL'.out]
                  have hle : w.heap.size ≤ w4.heap.size := Nat.le_trans HA.out.below.size HB4.out.size
                  exact ⟨⟨_, rfl, Kd.S_nil _ _ _ _ _⟩, below_alloc (below_then HA.out.below HA.out.below.size HB4.out) _⟩
              · obtain rfl : k = m := by omega
                have HL : Hid (getF b = if 0 < bb.length then ([], 5) else (acc, 0)) := Lib.hid (by
                  rw [← HA.out.res, Nat.sub_self]
                  rfl)
                by_cases h0 : 0 < bb.length
                · have h0' : 0 < (bb.length : Int) := by omega
                  have HL' : Hid (getF b = ([], 5)) := Lib.hid (by rw [HL.out]; exact if_pos h0)
                  clear h0
                  go_wp2_with fail
                  go_ret2
                  rw [HL'.out]
                  exact ⟨⟨_, rfl, Kd.S_nil _ _ _ _ _⟩, HA.out.below⟩
                · have h0' : ¬ 0 < (bb.length : Int) := by omega
                  have HL' : Hid (getF b = (acc, 0)) := Lib.hid (by rw [HL.out]; exact if_neg h0)
                  clear h0
                  go_wp2_with fail
                  go_ret2
                  rw [HL'.out]
                  exact ⟨⟨_, rfl, HA.out.own⟩, HA.out.below⟩
          · have hnb : ((numF s1 256).2 != 0) = true := bne_iff_ne.2 hn
            have HH2 : Hid (getF b = ([], (numF s1 256).2)) := Lib.hid (by rw [HH1.out, if_pos hn])
            clear HH1 hn
            go_wp2_with fail
            go_ret2
            rw [HH2.out]
            exact ⟨⟨_, rfl, Kd.S_nil _ _ _ _ _⟩, HB3.out⟩
        · have hqb : (s0.toList == [105, 110, 113, 117, 101, 115, 116]) = false := beq_eq_false_iff_ne.2 (fun h => hq (by rw [h, inq_list]))
          have HH1 : Hid (getF b = ([], 5)) := Lib.hid (by rw [HH.out, if_pos hq])
          clear HH hq
          go_wp2_with fail
          go_ret2
          rw [HH1.out]
          exact ⟨⟨_, rfl, Kd.S_nil _ _ _ _ _⟩, HB2.out⟩
      · have heb : (e != 0) = true := bne_iff_ne.2 he0
        obtain ⟨A1, c1, rfl⟩ := Kd.R_slice h0
        obtain ⟨A2, c2, rfl⟩ := Kd.R_slice h1
        have HH : Hid (getF b = ([], 5)) := Lib.hid (by
          rw [HF.out]
          unfold headF
          rw [hw]
          exact if_pos he0)
        clear h0 h1 he hw
        go_wp2_with fail
        go_ret2
        rw [HH.out]
        exact ⟨⟨_, rfl, Kd.S_nil _ _ _ _ _⟩, HB2.out⟩
    · have hv : bodyV A0 c0 (bodyF b) = .slice none 0 0 := if_neg hb0
      have heb : ((bodyF b).2 != 0) = true := bne_iff_ne.2 hb0
      have HF : Hid (getF b = ([], (bodyF b).2)) := Lib.hid (by unfold getF; rw [if_neg hlim, if_pos hb0])
      rw [hv] at HBC
      clear hv hr hbt hlim
      go_enter Tryz.func9, Tryz.ntmps9
      go_wp2_with fail
      refine HBC.out.mono ?_
      rintro r w1 ⟨rfl, hb1⟩
      have HB1 := Lib.hid hb1
      clear hb1 HBC
      go_wp2_with fail
      go_ret2
      rw [HF.out]
      exact ⟨⟨_, rfl, Kd.S_nil _ _ _ _ _⟩, HB1.out⟩
def BytesL (l : List Int) : Prop := ∀ c ∈ l, 0 ≤ c ∧ c < 256
instance (l : List Int) : Decidable (BytesL l) := by unfold BytesL; infer_instance
def store_Get.f (l0 : List Int) : Option (List S37 × Int) := if BytesL l0 then some (getF l0) else none
theorem store_Get.calls (A0 : Option Addr) (c0 : Nat) (l0 : List Int) (r1 : List S37) (r2 : Int) (w : World) (hgl : Gl w) (hr0 : Kd.C (Kd.int .u8) w A0 l0.length l0) (hc0 : l0.length ≤ c0) (h : store_Get.f l0 = some (r1, r2)) :
    Calls Tryz.prog 9 #[.slice A0 l0.length c0] w fun e w' => ∃ v0_ : Value, e = .returned (.tuple #[v0_, .int .i64 r2]) ∧ Kd.S k37 37 w' w.heap.size (fun _ => True) v0_ r1 ∧ Below w.heap.size w w' := by
  unfold store_Get.f at h
  split at h
  · rename_i hok
    have h' := Option.some.inj h
    refine (get_calls l0 hok A0 c0 w hgl hr0 hc0).mono ?_
    rintro e w' ⟨⟨v, rfl, hS⟩, hb⟩
    rw [h'] at hS ⊢
    exact ⟨v, rfl, hS, hb⟩
  · cases h
end Go.Proofs.YtfnahihdkbgleaaGreatDoor.Z
