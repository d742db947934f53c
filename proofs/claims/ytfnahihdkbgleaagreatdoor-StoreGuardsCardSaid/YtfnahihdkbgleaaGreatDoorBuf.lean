/- bytes.Buffer, as rows of numbers; strconv.Itoa. -/
import Derived.Test.YtfnahihdkbgleaaGreatDoorWWords
import Derived.Test.YtfnahihdkbgleaaGreatDoorShelf
import Derived.Test.YtfnahihdkbgleaaGreatDoorGl
import Derived.Lib.AppendIntMem
import Derived.Lib.BufferOld
namespace Go.Proofs.YtfnahihdkbgleaaGreatDoor
open Go.RowKit Go.Proofs.YtfnahihdkbgleaaGreatDoorW.PrintWords Go.Sort
/-- Block n is a buffer of the call's own that holds these bytes. -/
def Buf (n : Nat) (xs : List Int) (W : World) : Prop := Lib.IsBuffer 56 5 n n (nums .u8 xs) W
theorem Buf.lt {n : Nat} {xs : List Int} {W : World} (h : Buf n xs W) : n < W.heap.size := Lib.IsBuffer.lt h
theorem nums_one (xs : List Int) : ∀ v ∈ nums .u8 xs, v.oneCell' = true := by
  intro v hv
  obtain ⟨x, _, rfl⟩ := List.mem_map.1 hv
  rfl
theorem byteCells_bytesOf (s : ByteArray) : Lib.byteCells s.data.toList = nums .u8 (bytesOf s) := by
  simp [Lib.byteCells, nums, bytesOf]
/-- Whatever is no row of bytes, nor the buffer, is as it was. -/
def Oth (n : Nat) (w w' : World) : Prop := ∀ k cs t, w.heap[k]? = some (.cells cs t (0, 0)) → t ≠ 5 → k ≠ n → w'.heap[k]? = some (.cells cs t (0, 0))
theorem Oth.of {n : Nat} {w w' : World} (h : Lib.OthersKept 5 (some n) w w') : Oth n w w' := fun k cs t hk ht hn => h k _ hk (by simpa using hn) (by intro c fz e; injection e with _ e _; exact ht e)
theorem Buf.new (W : World) : Buf W.heap.size [] (W.alloc (.cells #[.slice none 0 0, .int .i64 0, .int .i8 0] 56)) := Lib.fresh_isBuffer 56 5 W
theorem Buf.old {n : Nat} {xs : List Int} {w w' : World} (h : Buf n xs w) (hb : Below w.heap.size w w') : Buf n xs w' := Lib.IsBuffer.old h hb
theorem Buf.alloc {n : Nat} {xs : List Int} {w : World} (h : Buf n xs w) (o : Obj) : Buf n xs (w.alloc o) := h.old ((Below.refl _ _).alloc (Nat.le_refl _) o)
theorem Buf.writeString {n : Nat} {xs : List Int} {w : World} (h : Buf n xs w) (s : ByteArray) (hlim : xs.length + s.size ≤ 140737488355328) :
    Calls Tryz.prog 21 #[.pointer (some ⟨n, 0, none⟩), .string s] w fun e w' => e = .returned (.tuple #[.int .i64 s.size, .nilIface]) ∧ Buf n (xs ++ bytesOf s) w' ∧ Below n w w' ∧ Oth n w w' := by
  refine (Tryz.Buffer_WriteString_k n n (nums .u8 xs) s w h (Nat.le_of_lt h.lt) (nums_one xs) (by simpa [nums] using hlim)).mono ?_
  rintro e w' ⟨rfl, h1, h2, h3⟩
  refine ⟨rfl, ?_, h2, Oth.of h3⟩
  unfold Buf
  rw [nums_append, ← byteCells_bytesOf]
  exact h1
theorem Buf.writeByte {n : Nat} {xs : List Int} {w : World} (h : Buf n xs w) (c : Int) (hlim : xs.length + 1 ≤ 140737488355328) :
    Calls Tryz.prog 24 #[.pointer (some ⟨n, 0, none⟩), .int .u8 c] w fun e w' => e = .returned .nilIface ∧ Buf n (xs ++ [c]) w' ∧ Below n w w' ∧ Oth n w w' := by
  refine (Tryz.Buffer_WriteByte_k n n (nums .u8 xs) c w h (Nat.le_of_lt h.lt) (nums_one xs) (by simpa [nums] using hlim)).mono ?_
  rintro e w' ⟨rfl, h1, h2, h3⟩
  refine ⟨rfl, ?_, h2, Oth.of h3⟩
  unfold Buf
  rw [nums_append]
  exact h1
theorem Buf.bytes {n : Nat} {xs : List Int} {w : World} (h : Buf n xs w) :
    Calls Tryz.prog 26 #[.pointer (some ⟨n, 0, none⟩)] w fun e w' => ∃ v, e = .returned v ∧ w'.ownsRow n 5 1 v xs.length (nums .u8 xs) ∧ ∃ m, w' = w.drewN m := by
  refine (Tryz.Buffer_Bytes n n (nums .u8 xs) w h).mono ?_
  rintro e w' ⟨v, rfl, h1, h2⟩
  exact ⟨v, rfl, by simpa [nums] using h1, h2⟩
set_option maxHeartbeats 1600000 in
set_option maxRecDepth 100000 in
/-- Nothing is written. -/
theorem Buf.writeNone {n : Nat} {xs : List Int} {w : World} (h : Buf n xs w) (A : Option Addr) (c : Nat) :
    Calls Tryz.prog 23 #[.pointer (some ⟨n, 0, none⟩), .slice A 0 c] w fun e w' => e = .returned (.tuple #[.int .i64 0, .nilIface]) ∧ Buf n xs w' ∧ Below n w w' := by
  have h0 : Lib.IsBuffer 56 5 n n (nums .u8 xs) w := h
  obtain ⟨hB, v0, lr, hbk, -, -⟩ := id h0
  have c2 : w.cell? ⟨n, 2, none⟩ = some (.int .i8 lr) := by rw [Lib.cell_of_heap hbk]; rfl
  have f2 : w.frozen? ⟨n, 2, none⟩ = false := Lib.frozen_of_heap hbk 2
  have h' := h0.setLast 0
  have hbel0 : Below n w (w.setCell ⟨n, 2, none⟩ (.int .i8 0)) := (Below.refl n w).setCell (p := ⟨n, 2, none⟩) hB _
  clear hbk v0
  have hinfo : (Tryz.prog.info? 5).map (·.size) = some 1 := by kernel_rfl
  have hce : ∀ d dLen dCap W, (Builtin.copy_ #[23, 23] 3 #[.slice d dLen dCap, .slice A 0 c]).run Tryz.prog W = .ok (goInt 0) W := fun d dLen dCap W => run_copy_none W 23 23 3 5 d A dLen dCap 0 c Tryz.underlying23 hinfo (by simp)
  have hT := Lib.hid (fun W (hW : Lib.IsBuffer 56 5 n n (nums .u8 xs) W) => Tryz.Buffer_tryGrow_kept n n 0 (nums .u8 xs) W hW)
  have H' := Lib.hid h'
  clear h h0 h'
  go_enter Tryz.func23, Tryz.ntmps23
  go_wp2_with (go_at_call 37; refine (hT.out _ ?_).mono ?_)
  · exact H'.out
  rintro e W1 (⟨rfl, ys, hxl, hI, hbel, -⟩ | ⟨rfl, rfl, hnr⟩)
  · clear c2 f2
    have hx0 : ys = [] := List.eq_nil_of_length_eq_zero hxl
    subst hx0
    rw [List.append_nil] at hI
    have HI := Lib.hid hI
    obtain ⟨-, lr2, hc⟩ := hI.cases
    rcases hc with ⟨hb0, hbk2⟩ | ⟨g, cap, cur, hbk2, -, -, hnc, hcm, -, -, -⟩
    · have d0 : W1.cell? ⟨n, 0, none⟩ = some (.slice none 0 0) := by rw [Lib.cell_of_heap hbk2]; rfl
      have hl0 : (nums .u8 xs).length = 0 := by rw [hb0]; rfl
      rw [hl0]
      clear hb0 hbk2
      have HL := Lib.hid hl0
      clear hl0 hI
      go_wp2
      all_goals (go_ret2; exact ⟨rfl, HI.out, hbel0.trans hbel⟩)
    · have d0 : W1.cell? ⟨n, 0, none⟩ = some (.slice (some ⟨g, 0, none⟩) (nums .u8 xs).length cap) := by rw [Lib.cell_of_heap hbk2]; rfl
      generalize hzl : (nums .u8 xs).length = z at d0 hnc ⊢
      have HZ := Lib.hid hzl
      clear hzl hI hbk2
      unfold maxLen at hcm
      go_wp2
      all_goals (go_ret2; exact ⟨rfl, HI.out, hbel0.trans hbel⟩)
  · obtain ⟨_, _, _, _, hlt⟩ := hnr
    omega
theorem Buf.write {n : Nat} {xs : List Int} {w0 w : World} (h : Buf n xs w) (hn : n = w0.heap.size) (hb : Below n w0 w) (A : Option Addr) (c : Nat) (ys : List Int) (hr : Kd.C (Kd.int .u8) w0 A ys.length ys) (hlim : xs.length + ys.length ≤ 140737488355328) :
    Calls Tryz.prog 23 #[.pointer (some ⟨n, 0, none⟩), .slice A ys.length c] w fun e w' => e = .returned (.tuple #[.int .i64 ys.length, .nilIface]) ∧ Buf n (xs ++ ys) w' ∧ Below n w w' := by
  by_cases h0 : ys.length = 0
  · obtain rfl := List.eq_nil_of_length_eq_zero h0
    rw [List.append_nil]
    exact h.writeNone A c
  · have hcell : ∀ j, j < ys.length → ∃ ad, A = some ad ∧ w0.cell? (ad.add j) = some (.int .u8 (ys.getD j 0)) := fun j hj => by
      obtain ⟨ad, cs, e1, hlen, hK, hc⟩ := Kd.C_get hr (0 : Int) (j : Int) (by omega) (by omega)
      have hK' : cs = [.int .u8 (ys.getD (j : Int).toNat 0)] := hK
      subst hK'
      refine ⟨ad, e1, ?_⟩
      have := hc 0 _ rfl
      rw [show (Kd.int .u8).sz = 1 from rfl, Nat.mul_one, Nat.add_zero] at this
      simpa using this
    obtain ⟨ad, rfl, hc0⟩ := hcell 0 (by omega)
    have hblk : ad.block < n := by
      have := World.block_lt_of_cell? w0 _ hc0
      rw [hn]
      simpa [Addr.add] using this
    refine (Tryz.Buffer_Write_k n n (nums .u8 xs) (nums .u8 ys) ad ys.length c w h (Nat.le_of_lt h.lt) (nums_one xs) (by simp [nums]) hblk (fun j v hj => ?_) (nums_one ys) (by simpa [nums] using hlim)).mono ?_
    · obtain ⟨x, hx, rfl⟩ : ∃ x, ys[j]? = some x ∧ v = .int .u8 x := by
        simp only [nums, List.getElem?_map, Option.map_eq_some_iff] at hj
        obtain ⟨x, hx, e⟩ := hj
        exact ⟨x, hx, e.symm⟩
      have hj' : j < ys.length := (List.getElem?_eq_some_iff.1 hx).1
      obtain ⟨ad', e, hc⟩ := hcell j hj'
      obtain rfl := Option.some.inj e
      have hbl : (ad.add j).block < n := by
        have := World.block_lt_of_cell? w0 _ hc
        rw [hn]; exact this
      rw [hb.cell hbl, hc]
      simp [List.getD, hx]
    · rintro e w' ⟨rfl, h1, h2, _⟩
      refine ⟨rfl, ?_, h2⟩
      unfold Buf
      rw [nums_append]
      exact h1
theorem Itoa_calls (n : Int) (h0 : -9223372036854775808 ≤ n) (h1 : n ≤ 9223372036854775807) (w : World) (hG : Gl w) :
    Calls Tryz.prog 22 #[.int .i64 n] w fun e w' => e = .returned (.string ⟨(Lib.itoa n).toArray⟩) ∧ Below w.heap.size w w' := by
  refine (Tryz.strconv_Itoa n h0 h1 w hG.pow).mono ?_
  rintro e w' ⟨rfl, k, os, rfl⟩
  exact ⟨rfl, Lib.below_grow _ w (Nat.le_refl _) k os⟩
end Go.Proofs.YtfnahihdkbgleaaGreatDoor
