/- One byte behind a row that was made of a string. -/
import Derived.Test.YtfajplhkbpobiaaDoorWrite
import Derived.Test.YtfajplhkbpobiaaDoorPNumW
import Derived.ArgAppend
namespace Go.Proofs.YtfajplhkbpobiaaDoor.Z
set_option linter.unusedVariables false
open Go.RowKit Go.Proofs.YtfajplhkbpobiaaDoorW.PrintWords
/-- A row of cells that may be written up to its capacity. -/
theorem step_append_one (w0 W : World) {ops : Array Oper} {o : Oper} {a : Act} {K : Act → World → Prop} {Q : Exit → Act → World → Prop} {E : Prop} (hgd : o.guard = none) (s x : Operand)
    (ho : o.op = .call { callee := .builtin .append, args := #[s, x], argTypes := #[22, 22] }) (g : Nat) (C : Array Value) (xs : List Int) (m : Int) (hs : a.eval s = .slice (some ⟨g, 0, none⟩) xs.length C.size) (B : Nat) (hx : a.eval x = .slice (some ⟨B, 0, none⟩) 1 1)
    (hblk : W.heap[g]? = some (.cells C 5 (C.size, C.size + 1))) (hle : xs.length ≤ C.size) (hC : ∀ j, j < xs.length → C[j]? = some (.int .u8 (xs.getD j 0))) (hB : W.cell? ⟨B, 0, none⟩ = some (.int .u8 m)) (hg : w0.heap.size ≤ g) (hb : Below w0.heap.size w0 W) (hlim : xs.length ≤ 1000000000)
    (h : ∀ A c w1, Kd.C (Kd.int .u8) w1 A (xs ++ [m]).length (xs ++ [m]) → (xs ++ [m]).length ≤ c → Below w0.heap.size w0 w1 → (∀ k o, k ≠ g → W.heap[k]? = some o → w1.heap[k]? = some o) → K (a.put o.dst (.slice A (xs ++ [m]).length c)) w1) :
    if Region.wanted o (yielded ops a.tmps) = true then Oper.wp Tryd.prog o a W K Q else E := by
  have hw : Region.wanted o (yielded ops a.tmps) = true := by simp [Region.wanted, hgd]
  rw [if_pos hw]
  obtain ⟨i0, hi0, hz0, hsz00, hby0⟩ := info_parts info_u8b
  have hsz0 : i0.size = 1 := hsz00
  have hnews : ∀ j u, [Value.int .u8 m][j]? = some u → W.cell? ((⟨B, 0, none⟩ : Addr).add j) = some u := by
    intro j u hu
    match j, hu with
    | 0, hu =>
      obtain rfl : Value.int .u8 m = u := by simpa using hu
      rw [show (⟨B, 0, none⟩ : Addr).add 0 = ⟨B, 0, none⟩ from rfl]
      exact hB
    | j + 1, hu => simp at hu
  have hml : (xs ++ [m]).length = xs.length + 1 := by simp
  have fin : ∀ r w1, (Builtin.append_ #[22, 22] o.type #[.slice (some ⟨g, 0, none⟩) xs.length C.size, .slice (some ⟨B, 0, none⟩) 1 1]).run Tryd.prog W = .ok r w1 → K (a.put o.dst r) w1 → Oper.wp Tryd.prog o a W K Q := by
    intro r w1 hr hk
    unfold Oper.wp execOp
    simp only [ho, resolve, invoke, builtin, Sem.run_bind, Sem.run_pure, Result.andThen_ok, List.map_toArray, List.map_cons, List.map_nil, hs, hx, hr]
    exact hk
  by_cases hroom : xs.length + 1 ≤ C.size
  · have hcell : (W.cell? ⟨g, 0 + xs.length * i0.size + 0, none⟩).isSome = true := by
      rw [cell_of_row W g _ C _ _ hblk, hsz0]
      simp
      omega
    have hr := run_append_room_cells (P := Tryd.prog) W 22 o.type 5 i0 Tryd.underlying22 hi0 g 0 xs.length C.size ⟨B, 0, none⟩ 1 1 [.int .u8 m] (by rw [hsz0]; rfl) hnews (by simp [Value.oneCell']) hroom (fun j hj => by
        obtain rfl : j = 0 := by simpa using hj
        exact hcell) (fun j hj => by
        obtain rfl : j = 0 := by simpa using hj
        unfold World.frozen?
        simp only [hblk, hsz0]
        simp
        omega)
    refine fin _ _ hr ?_
    have e1 : W.setCells g (0 + xs.length * i0.size) [.int .u8 m] = W.setCell ⟨g, xs.length, none⟩ (.int .u8 m) := by
      rw [hsz0]
      simp [World.setCells]
    rw [e1, ← hml]
    have hQ : RowQ w0 (W.setCell ⟨g, xs.length, none⟩ (.int .u8 m)) g (xs ++ [m]) := by
      refine ⟨⟨C.setIfInBounds xs.length (.int .u8 m), C.size, by simp [World.setCell, Array.getElem?_modify, hblk], by omega, by simp; omega, fun j hj => ?_⟩, below_set hb hg⟩
      rw [hml] at hj
      by_cases hjl : j = xs.length
      · subst hjl
        have : xs.length < C.size := by omega
        simp [List.getD, this]
      · rw [Array.getElem?_setIfInBounds_ne (by omega), hC j (by omega)]
        simp only [List.getD]
        rw [List.getElem?_append_left (by omega)]
    exact h _ _ _ (hQ.reads (by omega)) (by omega) hQ.below (fun k o hk ho => (Below.heap_setCell W ⟨g, xs.length, none⟩ _ k hk).trans ho)
  · have holds : ∀ j u, (encs (Value.int .u8) xs)[j]? = some u → W.cell? ((⟨g, 0, none⟩ : Addr).add j) = some u := by
      intro j u hu
      have hjl : j < xs.length := by
        have := (List.getElem?_eq_some_iff.1 hu).1
        simpa [encs] using this
      rw [Lib.add_plain, Nat.zero_add]
      rw [cell_of_row W g _ C _ _ hblk, hC j hjl, ← hu]
      simp [encs, List.getD, hjl]
    obtain ⟨v', w1, hr, hown, hgr⟩ := run_append_arg_grows (P := Tryd.prog) W 22 o.type 5 i0 (.int .u8 0) 1 1 Tryd.underlying22 hi0 hz0 hsz0 hby0 rfl (by decide) ⟨g, 0, none⟩ xs.length C.size (encs (Value.int .u8) xs) (by simp [encs]) holds ⟨B, 0, none⟩ 1 1 [.int .u8 m] rfl hnews (by omega) (by unfold maxLen; omega) (by omega)
    have hR : Kd.R (Kd.int .u8) 5 w1 W.heap.size (fun _ => True) v' (xs ++ [m]) := Kd.R_of_own (h1 := fun _ => rfl) (by
      rw [hml]
      have : encs (Value.int .u8) (xs ++ [m]) = encs (Value.int .u8) xs ++ [.int .u8 m] := by simp [encs]
      rw [this]
      exact hown) (fun _ _ => trivial)
    obtain ⟨A, c, rfl, hc, hCC⟩ := Kd.R_reads hR
    exact fin _ _ hr (h _ _ _ hCC hc (hb.grown hgr hb.size (fun k hk => by cases hk)) (fun k o _ ho => (hgr.block k (blk_lt ho) (fun h => by cases h)).trans ho))
/-! A row made of a string's bytes, by name. -/
def madeW (b : List Int) (W : World) : World := Lib.bytesWorld W 5 (strOfNums b)
def capW (b : List Int) (W : World) : Nat := grownCap W b.length 0 5
theorem made_run (b : List Int) (w : World) : (convert 9 22 (.string (strOfNums b))).run Tryd.prog w = .ok (.slice (some ⟨w.heap.size, 0, none⟩) b.length (capW b w)) (madeW b w) := by
  have h := Lib.run_convert_string_bytes (P := Tryd.prog) w 9 22 5 (strOfNums b) Tryd.underlying9 Tryd.underlying22 Tryd.underlying5
  rw [strOfNums_size] at h
  exact h
theorem made_size (b : List Int) (w : World) : (madeW b w).heap.size = w.heap.size + 1 := Lib.bytesWorld_size _ _ _
theorem below_made {w0 W : World} (h : Below w0.heap.size w0 W) (b : List Int) : Below w0.heap.size w0 (madeW b W) := bytes_below h h.size _ _
theorem blk_made {W : World} {g : Nat} {o : Obj} (h : W.heap[g]? = some o) (b : List Int) : (madeW b W).heap[g]? = some o := (Lib.bytesWorld_at_old W _ _ g (blk_lt h)).trans h
theorem blk_new_at {w : World} {g : Nat} (h : g = w.heap.size) (o : Obj) : (w.alloc o).heap[g]? = some o := by
  subst h
  exact blk_new w o
def MadeAt (b : List Int) (W : World) (g c : Nat) : Prop := ∃ Wb, W.heap[g]? = some (.cells (Lib.bytesCells Wb 5 (strOfNums b)) 5 ((Lib.bytesCells Wb 5 (strOfNums b)).size, (Lib.bytesCells Wb 5 (strOfNums b)).size + 1)) ∧ c = capW b Wb
theorem made_at {w : World} {g : Nat} (b : List Int) (hg : g = w.heap.size) : MadeAt b (madeW b w) g (capW b w) := by
  subst hg
  exact ⟨w, Lib.bytesWorld_at_new _ _ _, rfl⟩
theorem MadeAt.alloc {b : List Int} {W : World} {g c : Nat} (h : MadeAt b W g c) (o : Obj) : MadeAt b (W.alloc o) g c := by
  obtain ⟨Wb, h1, h2⟩ := h
  exact ⟨Wb, blk_alloc h1 o, h2⟩
theorem MadeAt.drew {b : List Int} {W : World} {g c : Nat} (h : MadeAt b W g c) : MadeAt b W.drew g c := h
theorem step_append_made (w0 W : World) {ops : Array Oper} {o : Oper} {a : Act} {K : Act → World → Prop} {Q : Exit → Act → World → Prop} {E : Prop} (hgd : o.guard = none) (s x : Operand)
    (ho : o.op = .call { callee := .builtin .append, args := #[s, x], argTypes := #[22, 22] }) (b : List Int) (hby : ∀ c ∈ b, 0 ≤ c ∧ c < 256) (g c : Nat) (m : Int) (hs : a.eval s = .slice (some ⟨g, 0, none⟩) b.length c) (B : Nat) (hx : a.eval x = .slice (some ⟨B, 0, none⟩) 1 1)
    (hblk : MadeAt b W g c) {t : TypeId} (hB : W.heap[B]? = some (.cells #[.int .u8 m] t (0, 0))) (hg : w0.heap.size ≤ g) (hb : Below w0.heap.size w0 W) (hlim : b.length ≤ 1000000000) (l : List Int) (hl : b ++ [m] = l)
    (h : ∀ A c w1, Kd.C (Kd.int .u8) w1 A l.length l → l.length ≤ c → Below w0.heap.size w0 w1 → (∀ k o, k ≠ g → W.heap[k]? = some o → w1.heap[k]? = some o) → K (a.put o.dst (.slice A l.length c)) w1) :
    if Region.wanted o (yielded ops a.tmps) = true then Oper.wp Tryd.prog o a W K Q else E := by
  subst hl
  obtain ⟨Wb, hblk, rfl⟩ := hblk
  have hss : (strOfNums b).size = b.length := strOfNums_size b
  have hcap : b.length ≤ capW b Wb := grownCap_ge _ _ _ _
  have hsz : (Lib.bytesCells Wb 5 (strOfNums b)).size = capW b Wb := by
    unfold Lib.bytesCells
    rw [Array.size_append, Array.size_map, Array.size_replicate, hss]
    have : (strOfNums b).data.size = b.length := hss
    show _ + (capW b Wb - b.length) = _
    omega
  refine step_append_one w0 W hgd s x ho g (Lib.bytesCells Wb 5 (strOfNums b)) b m (by rw [hs, hsz]) B hx hblk (by omega) (fun j hj => ?_) ((blk_cell hB 0).trans rfl) hg hb hlim h
  have h1 := Lib.bytesWorld_cell Wb 5 (strOfNums b) j (by omega)
  rw [cell_of_row _ _ j _ _ _ (Lib.bytesWorld_at_new Wb 5 (strOfNums b))] at h1
  rw [h1]
  have h2 : toI (strOfNums b).data.toList = b := toI_str b hby
  have h3 : (((strOfNums b).data.toList.getD j 0).toNat : Int) = b.getD j 0 := by
    conv => rhs; rw [← h2]
    unfold toI
    simp only [List.getD, List.getElem?_map]
    cases ((strOfNums b).data.toList)[j]? <;> rfl
  rw [h3]
end Go.Proofs.YtfajplhkbpobiaaDoor.Z
