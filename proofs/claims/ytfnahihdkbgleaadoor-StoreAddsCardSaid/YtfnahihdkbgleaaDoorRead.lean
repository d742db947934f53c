/- What the arguments of the laws hold, out of what the row's reading says: bytes, an item, items. -/
import Derived.Test.YtfnahihdkbgleaaDoorLaid
import Derived.Test.YtfnahihdkbgleaaDoorPSums
import Derived.Test.YtfnahihdkbgleaaDoorFile
import Derived.OpenShut
import Derived.ShutString
import Derived.ChangeOld
import Derived.Below
import Derived.SizedLaws
import Derived.Test.YtfnahihdkbgleaaDoorWSized
namespace Go.Proofs.YtfnahihdkbgleaaDoor.Z
open Go.ChangeShapes Go.WideShapes Go.ChangeAt Go.RowKit Go.Proofs.YtfnahihdkbgleaaDoorW.PrintWords Go.Proofs.YtfnahihdkbgleaaDoorW.PrintLast Go.Proofs.YtfnahihdkbgleaaDoorW.PrintMore Go.Proofs.YtfnahihdkbgleaaDoor
set_option linter.unusedVariables false
set_option maxRecDepth 100000
def IsRow (k : IntKind) (w : World) (a : Option Addr) (len cap : Nat) (zs : List Int) : Prop :=
  (a = none ∧ len = 0 ∧ cap = 0 ∧ zs = []) ∨
  ∃ x, a = some x ∧ len ≤ cap ∧ cap ≤ maxLen ∧ zs.length = cap ∧ (∀ i, i < zs.length → w.cell? (x.add i) = some (.int k (zs.getD i 0))) ∧ ∀ n ∈ zs, (Lit.int k n).wf = true
theorem u8_of {c : Int} (h : (Lit.int .u8 c).wf = true) : 0 ≤ c ∧ c < 256 := by
  have := bounds_u8 h
  omega
variable {H : Type} {enc : TypeId × Value → H} {W : World}
/-- A slice of bytes, as cells. -/
theorem bytes_cells {fuel : Nat} {cs : List Value} {x : DataW H × List MemPlace} (h : DataW.trod enc Tryd.prog W 0 (fun _ => true) true fuel 22 cs = some x) :
    ∃ (A : Option Addr) (c : Nat) (l : List Int), cs = [.slice A l.length c] ∧ Kd.C (Kd.int .u8) W A l.length l ∧ l.length ≤ c ∧ l.length ≤ maxLen ∧ Bytes_ l := by
  obtain ⟨A, len, cap, zs, rfl, w⟩ : ∃ A len cap zs, cs = [.slice A len cap] ∧ IsRow .u8 W A len cap zs := by
    rcases open_ints Tryd.underlying22 Tryd.underlying5 (by kernel_rfl) h with ⟨hcs, _⟩ | ⟨x, l, c, zs, hcs, _, hl, hm, hz, _, hcell, hwz⟩
    · exact ⟨none, 0, 0, [], hcs, .inl ⟨rfl, rfl, rfl, rfl⟩⟩
    · exact ⟨some x, l, c, zs, hcs, .inr ⟨_, rfl, hl, hm, by simpa using hz, hcell, hwz⟩⟩
  obtain ⟨l, rfl, hr, hm, hw, hc⟩ := ReadsInt.ofRowC w
  exact ⟨A, cap, l, rfl, Kd.C_of_reads (d := (0 : Int)) (h1 := fun _ => rfl) hr, hc, hm, fun c hcm => u8_of (hw c hcm)⟩
def ItIs (y : It) : Prop := ((0 ≤ y.f0 ∧ y.f0 < 256) ∧ ∀ b ∈ y.f2, 0 ≤ b ∧ b < 256) ∧ y.f1.size ≤ 9223372036854775807
theorem take_one {cs : List Value} {i : Nat} {v : Value} (h : (cs.drop i).take 1 = [v]) : cs[i]? = some v := by
  have : ((cs.drop i).take 1)[0]? = some v := by rw [h]; rfl
  simpa [List.getElem?_take, List.getElem?_drop] using this
theorem three {cs : List Value} {a b c : Value} (hl : cs.length = 3) (h0 : cs[0]? = some a) (h1 : cs[1]? = some b) (h2 : cs[2]? = some c) : cs = [a, b, c] := by
  match cs, hl with
  | [x, y, z], _ => simp at h0 h1 h2; simp [h0, h1, h2]
/-- An item, as cells. -/
theorem item_cells {fuel : Nat} {cs : List Value} {x : DataW H × List MemPlace} (h : DataW.trod enc Tryd.prog W 0 (fun _ => true) true fuel 29 cs = some x) : ∃ y : It, k29.K W y cs ∧ ItIs y := by
  obtain ⟨xs, n, rfl, _, hl, hxl, hall⟩ := DataW.trod_struct Tryd.underlying29 h
  have hc29 : Tryd.prog.cellsOf 29 = 3 := by kernel_rfl
  have hc5 : Tryd.prog.cellsOf 5 = 1 := by kernel_rfl
  have hc9 : Tryd.prog.cellsOf 9 = 1 := by kernel_rfl
  have hc22 : Tryd.prog.cellsOf 22 = 1 := by kernel_rfl
  have hx3 : xs.length = 3 := hxl
  have f0 : DataW.trod enc Tryd.prog W 0 (fun _ => true) true n 5 ((cs.drop 0).take (Tryd.prog.cellsOf 5)) = xs[0]? := hall 0 _ rfl
  have f1 : DataW.trod enc Tryd.prog W 0 (fun _ => true) true n 9 ((cs.drop 1).take (Tryd.prog.cellsOf 9)) = xs[1]? := hall 1 _ rfl
  have f2 : DataW.trod enc Tryd.prog W 0 (fun _ => true) true n 22 ((cs.drop 2).take (Tryd.prog.cellsOf 22)) = xs[2]? := hall 2 _ rfl
  rw [hc5, List.getElem?_eq_getElem (by omega)] at f0
  rw [hc9, List.getElem?_eq_getElem (by omega)] at f1
  rw [hc22, List.getElem?_eq_getElem (by omega)] at f2
  obtain ⟨a, ha, _, hw⟩ := DataW.trod_int Tryd.underlying5 f0
  obtain ⟨s, hs, _, hz⟩ := DataW.trod_string Tryd.underlying9 f1
  obtain ⟨A, c, l, hb, hC, hlc, _, hby⟩ := bytes_cells f2
  have e := three (by rw [hl, hc29]) (take_one ha) (take_one hs) (take_one hb)
  subst e
  exact ⟨⟨a, s, l⟩, k29_mk W ⟨a, s, l⟩ hlc hC, ⟨u8_of hw, hby⟩, hz⟩
theorem cells_at {a : Addr} {n : Nat} {cs : List Value} (h : W.cells? 0 a n = some cs) : cs.length = n ∧ ∀ j u, cs[j]? = some u → W.cell? (a.add j) = some u := by
  unfold World.cells? at h
  rw [if_pos (Nat.zero_le _)] at h
  have hl := mapM_some_length h
  rw [List.length_range] at hl
  refine ⟨hl, fun j u hu => ?_⟩
  have hj : j < n := by
    have := (List.getElem?_eq_some_iff.1 hu).1
    omega
  rw [← hu]
  exact mapM_some_get h j j (by simp [hj])
theorem pick_list {α : Type} {p : Nat → α → Prop} : ∀ (n : Nat), (∀ i, i < n → ∃ y, p i y) → ∃ l : List α, l.length = n ∧ ∀ i y, l[i]? = some y → p i y
  | 0, _ => ⟨[], rfl, fun i y h => by simp at h⟩
  | n + 1, h => by
    obtain ⟨l, hl, hp⟩ := pick_list n (fun i hi => h i (by omega))
    obtain ⟨y, hy⟩ := h n (by omega)
    refine ⟨l ++ [y], by simp [hl], fun i z hz => ?_⟩
    by_cases hi : i < l.length
    · rw [List.getElem?_append_left hi] at hz
      exact hp i z hz
    · have hil : i < (l ++ [y]).length := (List.getElem?_eq_some_iff.1 hz).1
      rw [List.length_append, List.length_singleton] at hil
      have : i = l.length := by omega
      subst this
      rw [List.getElem?_append_right (Nat.le_refl _)] at hz
      simp at hz
      subst hz
      rw [hl]
      exact hy
/-- A slice of items. -/
theorem items_cells {fuel : Nat} {cs : List Value} {x : DataW H × List MemPlace} (h : DataW.trod enc Tryd.prog W 0 (fun _ => true) true fuel 27 cs = some x) :
    ∃ (A : Option Addr) (c : Nat) (l : List It), cs = [.slice A l.length c] ∧ Kd.C k29 W A l.length l ∧ l.length ≤ c ∧ l.length ≤ maxLen ∧ ∀ y ∈ l, ItIs y := by
  have hc29 : Tryd.prog.cellsOf 29 = 3 := by kernel_rfl
  rcases DataW.trod_slice Tryd.underlying27 h with ⟨rfl, _⟩ | ⟨a, len, cap, elems, rest, n, _, rfl, _, _, hl, hm, hlen, hel, _, _⟩
  · exact ⟨none, 0, [], rfl, ⟨rfl, Nat.zero_le _, fun h => absurd h (by decide)⟩, Nat.zero_le _, Nat.zero_le _, fun y hy => by cases hy⟩
  · obtain ⟨l, hll, hp⟩ := pick_list (p := fun i (y : It) => ∃ c, c.length = 3 ∧ k29.K W y c ∧ (∀ j u, c[j]? = some u → W.cell? (a.add (i * 3 + j)) = some u) ∧ ItIs y) len (fun i hi => by
      have e := hel i hi
      rw [hc29, List.getElem?_eq_getElem (by omega)] at e
      obtain ⟨c, hc, ht⟩ := Option.bind_eq_some_iff.1 e
      obtain ⟨hcl, hcc⟩ := cells_at hc
      obtain ⟨y, hK, hI⟩ := item_cells ht
      exact ⟨y, c, hcl, hK, fun j u hu => by rw [← Addr.add_add]; exact hcc j u hu, hI⟩)
    subst hll
    refine ⟨some a, cap, l, rfl, ⟨rfl, by have : l.length ≤ maxLen := Nat.le_trans hl hm; exact this, fun _ => ⟨a, rfl, fun j y hj => ?_⟩⟩, hl, Nat.le_trans hl hm, fun y hy => ?_⟩
    · obtain ⟨c, h1, h2, h3, _⟩ := hp j y hj
      exact ⟨c, h1, h2, h3⟩
    · obtain ⟨j, hj⟩ := List.mem_iff_getElem?.1 hy
      exact (hp j y hj).elim fun c h => h.2.2.2
/-- The arguments. -/
theorem bytes_arg {v : Value} {d : DataW H} {p : List MemPlace} {base : Nat} (hv : Value.okWide Tryd.prog W .any base 22 v) (h : DataW.Trod enc Tryd.prog W 0 (fun _ => true) true 22 v d p) :
    ∃ (A : Option Addr) (c : Nat) (l : List Int), v = .slice A l.length c ∧ Kd.C (Kd.int .u8) W A l.length l ∧ l.length ≤ c ∧ l.length ≤ maxLen ∧ Bytes_ l := by
  obtain ⟨a, len, cap, rfl⟩ := okWide_slice Tryd.underlying22 hv
  obtain ⟨fuel, hf⟩ := h
  obtain ⟨A, c, l, e, h1, h2, h3, h4⟩ := bytes_cells hf
  simp [Value.cells] at e
  obtain ⟨rfl, rfl, rfl⟩ := e
  exact ⟨_, _, l, rfl, h1, h2, h3, h4⟩
theorem items_arg {v : Value} {d : DataW H} {p : List MemPlace} {base : Nat} (hv : Value.okWide Tryd.prog W .any base 27 v) (h : DataW.Trod enc Tryd.prog W 0 (fun _ => true) true 27 v d p) :
    ∃ (A : Option Addr) (c : Nat) (l : List It), v = .slice A l.length c ∧ Kd.C k29 W A l.length l ∧ l.length ≤ c ∧ l.length ≤ maxLen ∧ ∀ y ∈ l, ItIs y := by
  obtain ⟨a, len, cap, rfl⟩ := okWide_slice Tryd.underlying27 hv
  obtain ⟨fuel, hf⟩ := h
  obtain ⟨A, c, l, e, h1, h2, h3, h4⟩ := items_cells hf
  simp [Value.cells] at e
  obtain ⟨rfl, rfl, rfl⟩ := e
  exact ⟨_, _, l, rfl, h1, h2, h3, h4⟩
theorem item_arg {v : Value} {d : DataW H} {p : List MemPlace} {base : Nat} (hv : Value.okWide Tryd.prog W .any base 29 v) (h : DataW.Trod enc Tryd.prog W 0 (fun _ => true) true 29 v d p) :
    ∃ (A : Option Addr) (c : Nat) (y : It), v = .agg #[.int .u8 y.f0, .string y.f1, .slice A y.f2.length c] ∧ Kd.C (Kd.int .u8) W A y.f2.length y.f2 ∧ y.f2.length ≤ c ∧ ItIs y := by
  obtain ⟨cs, rfl, hs⟩ := okWide_struct Tryd.underlying29 hv
  obtain ⟨fuel, hf⟩ := h
  obtain ⟨y, hK, hI⟩ := item_cells hf
  obtain ⟨A2, c2, e, h1, h2⟩ := k29_open hK
  have e' : cs.toList = [.int .u8 y.f0, .string y.f1, .slice A2 y.f2.length c2] := e
  refine ⟨A2, c2, y, ?_, h2, h1, hI⟩
  congr 1
  exact Array.toList_inj.1 e'
end Go.Proofs.YtfnahihdkbgleaaDoor.Z
