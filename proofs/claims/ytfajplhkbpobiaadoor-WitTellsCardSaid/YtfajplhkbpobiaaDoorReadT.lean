/- What a trace that is handed in holds, out of what the row's reading says, with the bounds that the reach gives. -/
import Derived.Test.YtfajplhkbpobiaaDoorReadW
import Derived.Test.YtfajplhkbpobiaaDoorPut
namespace Go.Proofs.YtfajplhkbpobiaaDoor.Z
open Go.ChangeShapes Go.WideShapes Go.ChangeAt Go.RowKit Go.Proofs.YtfajplhkbpobiaaDoorW.PrintWords Go.Proofs.YtfajplhkbpobiaaDoorW.PrintLast Go.Proofs.YtfajplhkbpobiaaDoorW.PrintMore Go.Proofs.YtfajplhkbpobiaaDoor
set_option linter.unusedVariables false
set_option maxRecDepth 100000
variable {H : Type} {enc : TypeId × Value → H} {W : World}
/-- All weights are within the reach. -/
def Lite (t : TypeId) (d : DataW H) : Prop := ∀ n ∈ d.weights Tryd.prog t, n ≤ reachBytes
theorem weights_all {e : TypeId} : ∀ {l : List (DataW H)} {d : DataW H}, d ∈ l → ∀ n ∈ d.weights Tryd.prog e, n ∈ DataW.weightsAll Tryd.prog e l
  | x :: r, d, hd, n, hn => by
    simp only [DataW.weightsAll, List.mem_append]
    rcases List.mem_cons.1 hd with rfl | h
    · exact .inl hn
    · exact .inr (weights_all h n hn)
  | [], _, hd, _, _ => by cases hd
theorem Lite.arg {ts : List TypeId} {ds : List (DataW H)} (h : (DataW.weightsEach Tryd.prog ts ds).all (· ≤ reachBytes) = true) {j : Nat} {t : TypeId} {d : DataW H} (ht : ts[j]? = some t) (hd : ds[j]? = some d) : Lite t d :=
  fun n hn => by simpa using List.all_eq_true.1 h n (DataW.weights_mem_each ht hd n hn)
theorem Lite.part {t : TypeId} {fs : Array Field} (hu : Tryd.prog.underlying t = some (.struct fs)) {ds : List (DataW H)} (h : Lite t (.agg ds)) {j : Nat} {u : TypeId} {d : DataW H} (ht : (fs.toList.map (·.type))[j]? = some u) (hd : ds[j]? = some d) : Lite u d :=
  fun n hn => h n (by simp only [DataW.weights, hu]; exact DataW.weights_mem_each ht hd n hn)
theorem Lite.elem {t e : TypeId} (hu : Tryd.prog.underlying t = some (.slice e)) {l r : List (DataW H)} (h : Lite t (.slice l r)) {d : DataW H} (hd : d ∈ l) : Lite e d :=
  fun n hn => h n (by simp only [DataW.weights, hu, List.mem_cons, List.mem_append]; exact .inr (.inl (weights_all hd n hn)))
theorem Lite.len {t e : TypeId} (hu : Tryd.prog.underlying t = some (.slice e)) {l r : List (DataW H)} (h : Lite t (.slice l r)) {B : Nat} (hB : Tryd.prog.bytesOf e = B) : (l.length + r.length) * B ≤ 140737488351232 := by
  have := h ((l.length + r.length) * Tryd.prog.bytesOf e) (by simp [DataW.weights, hu])
  rw [hB] at this
  exact this
/-- A slice of bytes, as cells, within the reach. -/
theorem bytes_lite {fuel : Nat} {cs : List Value} {d : DataW H} {ps : List MemPlace} (h : DataW.trod enc Tryd.prog W 0 (fun _ => true) true fuel 22 cs = some (d, ps)) (hz : Lite 22 d) :
    ∃ (A : Option Addr) (c : Nat) (l : List Int), cs = [.slice A l.length c] ∧ Kd.C (Kd.int .u8) W A l.length l ∧ l.length ≤ c ∧ l.length ≤ 140737488351232 ∧ Bytes_ l := by
  obtain ⟨A, c, l, rfl, h1, h2, _, h4⟩ := bytes_cells h
  refine ⟨A, c, l, rfl, h1, h2, ?_, h4⟩
  rcases open_ints Tryd.underlying22 Tryd.underlying5 (by kernel_rfl) h with ⟨hcs, _⟩ | ⟨x, len, cap, zs, hcs, _, hl, _, hzl, hx, _, _⟩
  · simp at hcs
    obtain ⟨_, hcs, _⟩ := hcs
    rw [hcs]
    exact Nat.zero_le _
  · simp at hcs
    obtain ⟨_, rfl, _⟩ := hcs
    obtain ⟨rfl, _⟩ := Prod.mk.inj hx
    have := hz.len Tryd.underlying22 (B := 1) (by kernel_rfl)
    have e1 : (lits (H := H) .u8 (zs.take l.length)).length = l.length := by
      simp only [lits, List.length_map, List.length_take]
      have : zs.length = cap := by simpa using hzl
      omega
    omega
theorem take_one {cs : List Value} {i : Nat} {v : Value} (h : (cs.drop i).take 1 = [v]) : cs[i]? = some v := by
  have : ((cs.drop i).take 1)[0]? = some v := by rw [h]; rfl
  simpa [List.getElem?_take, List.getElem?_drop] using this
theorem three {cs : List Value} {a b c : Value} (hl : cs.length = 3) (h0 : cs[0]? = some a) (h1 : cs[1]? = some b) (h2 : cs[2]? = some c) : cs = [a, b, c] := by
  match cs, hl with
  | [x, y, z], _ => simp at h0 h1 h2; simp [h0, h1, h2]
theorem cells_at {a : Addr} {n : Nat} {cs : List Value} (h : W.cells? 0 a n = some cs) : cs.length = n ∧ ∀ j u, cs[j]? = some u → W.cell? (a.add j) = some u := by
  unfold World.cells? at h
  rw [if_pos (Nat.zero_le _)] at h
  have hl := mapM_some_length h
  rw [List.length_range] at hl
  refine ⟨hl, fun j u hu => ?_⟩
  have hj : j < n := by
    have := (List.getElem?_eq_some_iff.1 hu).1
    omega
  rw [← hu]
  exact mapM_some_get h j j (by simp [hj])
theorem pick_list {α : Type} {p : Nat → α → Prop} : ∀ (n : Nat), (∀ i, i < n → ∃ y, p i y) → ∃ l : List α, l.length = n ∧ ∀ i y, l[i]? = some y → p i y
  | 0, _ => ⟨[], rfl, fun i y h => by simp at h⟩
  | n + 1, h => by
    obtain ⟨l, hl, hp⟩ := pick_list n (fun i hi => h i (by omega))
    obtain ⟨y, hy⟩ := h n (by omega)
    refine ⟨l ++ [y], by simp [hl], fun i z hz => ?_⟩
    by_cases hi : i < l.length
    · rw [List.getElem?_append_left hi] at hz
      exact hp i z hz
    · have hil : i < (l ++ [y]).length := (List.getElem?_eq_some_iff.1 hz).1
      rw [List.length_append, List.length_singleton] at hil
      have : i = l.length := by omega
      subst this
      rw [List.getElem?_append_right (Nat.le_refl _)] at hz
      simp at hz
      subst hz
      rw [hl]
      exact hy
/-- Rows of bytes. -/
def RowIs (x : List Int) : Prop := x.length ≤ 140737488351232 ∧ ∀ c ∈ x, 0 ≤ c ∧ c < 256
theorem rows_lite {fuel : Nat} {cs : List Value} {d : DataW H} {ps : List MemPlace} (h : DataW.trod enc Tryd.prog W 0 (fun _ => true) true fuel 23 cs = some (d, ps)) (hz : Lite 23 d) :
    ∃ (A : Option Addr) (c : Nat) (l : List (List Int)), cs = [.slice A l.length c] ∧ Kd.C (Kd.slice 5 (Kd.int .u8)) W A l.length l ∧ l.length ≤ c ∧ l.length ≤ maxLen ∧ ∀ y ∈ l, RowIs y := by
  have hc1 : Tryd.prog.cellsOf 22 = 1 := by kernel_rfl
  rcases DataW.trod_slice Tryd.underlying23 h with ⟨rfl, _⟩ | ⟨a, len, cap, elems, rest, n, _, rfl, hx, _, hl, hm, hlen, hel, _, _⟩
  · exact ⟨none, 0, [], rfl, ⟨rfl, Nat.zero_le _, fun h => absurd h (by decide)⟩, Nat.zero_le _, Nat.zero_le _, fun y hy => by cases hy⟩
  · obtain ⟨rfl, _⟩ := Prod.mk.inj hx
    obtain ⟨l, hll, hp⟩ := pick_list (p := fun i (y : List Int) => ∃ c, c.length = 1 ∧ (Kd.slice 5 (Kd.int .u8)).K W y c ∧ (∀ j u, c[j]? = some u → W.cell? (a.add (i * 1 + j)) = some u) ∧ RowIs y) len (fun i hi => by
      have e := hel i hi
      rw [hc1, List.getElem?_eq_getElem (by omega)] at e
      obtain ⟨c, hc, ht⟩ := Option.bind_eq_some_iff.1 e
      obtain ⟨hcl, hcc⟩ := cells_at hc
      obtain ⟨A, cc, y, hcs, hK, hyc, hI⟩ := bytes_lite ht (hz.elem Tryd.underlying23 (List.mem_map.2 ⟨_, List.getElem_mem _, rfl⟩))
      exact ⟨y, c, hcl, ⟨A, cc, hcs, hyc, hK⟩, fun j u hu => by rw [← Addr.add_add]; exact hcc j u hu, hI⟩)
    subst hll
    refine ⟨some a, cap, l, rfl, ⟨rfl, by have : l.length ≤ maxLen := Nat.le_trans hl hm; exact this, fun _ => ⟨a, rfl, fun j y hj => ?_⟩⟩, hl, Nat.le_trans hl hm, fun y hy => ?_⟩
    · obtain ⟨c, h1, h2, h3, _⟩ := hp j y hj
      exact ⟨c, h1, h2, h3⟩
    · obtain ⟨j, hj⟩ := List.mem_iff_getElem?.1 hy
      exact (hp j y hj).elim fun c h => h.2.2.2
/-- A trace. -/
theorem trace_arg {v : Value} {d : DataW H} {p : List MemPlace} {base : Nat} (hv : Value.okWide Tryd.prog W .any base 25 v) (h : DataW.Trod enc Tryd.prog W 0 (fun _ => true) true 25 v d p) (hz : Lite 25 d) :
    ∃ (bad : Int) (A1 : Option Addr) (c1 : Nat) (init : List Int) (A2 : Option Addr) (c2 : Nat) (fr : List (List Int)), v = .agg #[.int .i64 bad, .slice A1 init.length c1, .slice A2 fr.length c2] ∧ (Lit.int .i64 bad).wf = true ∧
      Kd.C (Kd.int .u8) W A1 init.length init ∧ init.length ≤ c1 ∧ Kd.C (Kd.slice 5 (Kd.int .u8)) W A2 fr.length fr ∧ fr.length ≤ c2 ∧ fr.length ≤ 9223372036854775807 ∧ RowsIn init fr := by
  obtain ⟨cs, rfl, hs⟩ := okWide_struct Tryd.underlying25 hv
  obtain ⟨fuel, hf⟩ := h
  obtain ⟨xs, n, rfl, hx, hl, hxl, hall⟩ := DataW.trod_struct Tryd.underlying25 hf
  obtain ⟨rfl, _⟩ := Prod.mk.inj hx
  have hc : Tryd.prog.cellsOf 25 = 3 := by kernel_rfl
  have hca : Tryd.prog.cellsOf 3 = 1 := by kernel_rfl
  have hcb : Tryd.prog.cellsOf 22 = 1 := by kernel_rfl
  have hcc : Tryd.prog.cellsOf 23 = 1 := by kernel_rfl
  have hx3 : xs.length = 3 := hxl
  have f0 : DataW.trod enc Tryd.prog W 0 (fun _ => true) true n 3 ((cs.toList.drop 0).take (Tryd.prog.cellsOf 3)) = xs[0]? := hall 0 _ rfl
  have f1 : DataW.trod enc Tryd.prog W 0 (fun _ => true) true n 22 ((cs.toList.drop 1).take (Tryd.prog.cellsOf 22)) = xs[1]? := hall 1 _ rfl
  have f2 : DataW.trod enc Tryd.prog W 0 (fun _ => true) true n 23 ((cs.toList.drop 2).take (Tryd.prog.cellsOf 23)) = xs[2]? := hall 2 _ rfl
  rw [hca, List.getElem?_eq_getElem (by omega)] at f0
  rw [hcb, List.getElem?_eq_getElem (by omega)] at f1
  rw [hcc, List.getElem?_eq_getElem (by omega)] at f2
  obtain ⟨a, ha, _, hw⟩ := DataW.trod_int Tryd.underlying3 f0
  have z1 : Lite 22 (xs[1]).1 := hz.part Tryd.underlying25 (j := 1) rfl (by rw [List.getElem?_map, List.getElem?_eq_getElem (by omega)]; rfl)
  have z2 : Lite 23 (xs[2]).1 := hz.part Tryd.underlying25 (j := 2) rfl (by rw [List.getElem?_map, List.getElem?_eq_getElem (by omega)]; rfl)
  obtain ⟨A1, c1, l1, e1, hC1, hl1, hm1, hb1⟩ := bytes_lite f1 z1
  obtain ⟨A2, c2, l2, e2, hC2, hl2, hm2, hb2⟩ := rows_lite f2 z2
  have e := three (hl.trans hc) (take_one ha) (take_one e1) (take_one e2)
  refine ⟨a, A1, c1, l1, A2, c2, l2, ?_, hw, hC1, hl1, hC2, hl2, hm2, fun y hy => ?_⟩
  · congr 1
    exact Array.toList_inj.1 e
  · rcases List.mem_cons.1 hy with rfl | hy
    · exact ⟨hm1, hb1⟩
    · exact hb2 y hy
end Go.Proofs.YtfajplhkbpobiaaDoor.Z
