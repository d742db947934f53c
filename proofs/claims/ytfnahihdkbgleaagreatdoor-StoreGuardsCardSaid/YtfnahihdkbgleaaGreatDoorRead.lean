/- What the arguments of the laws hold, out of what the row's reading says: bytes, an item, items. -/
import Derived.Test.YtfnahihdkbgleaaGreatDoorCards
import Derived.Test.YtfnahihdkbgleaaGreatDoorTie
import Derived.Test.YtfnahihdkbgleaaGreatDoorGl
import Derived.WalkKit
import Derived.ProofKit
import Derived.Deep.DeepHandedRow
import Derived.Deep.DeepWitnessRowRef
import Derived.Lib.LaidTab
import Derived.Lib.LaidU8
import Derived.LaidLaws
import Derived.Shelf.Vars
import Derived.Test.YtfnahihdkbgleaaGreatDoorFile
import Derived.OpenShut
import Derived.ShutString
import Derived.ChangeOld
import Derived.Below
import Derived.SizedLaws
import Derived.Test.YtfnahihdkbgleaaGreatDoorWSized
/- What the rows' list of package-level variables gives to the walks, and a world in which it holds. -/
namespace Go.Proofs.YtfnahihdkbgleaaGreatDoor
open Go.ChangeShapes Go.WideShapes Go.RowKit
set_option linter.unusedVariables false
theorem own : ownKnob Tryz.prog.godebug = none := by kernel_rfl
theorem laidOut : laidOutB Tryz.prog = true := by kernel_rfl
/-- The list, as every row of this seat has it. -/
def laidAll : List (String × DataW Unit) := [("math/bits.deBruijn32tab", Rows.laid_math_bits_deBruijn32tab), ("math/bits.deBruijn64tab", Rows.laid_math_bits_deBruijn64tab), ("internal/strconv.uint64pow10", Rows.laid_internal_strconv_uint64pow10), ("unicode/utf8.acceptRanges", Rows.laid_unicode_utf8_acceptRanges), ("strconv.ErrRange", Rows.laid_strconv_ErrRange), ("strconv.ErrSyntax", Rows.laid_strconv_ErrSyntax), ("bytes.ErrTooLarge", Rows.laid_bytes_ErrTooLarge), ("unicode/utf8.first", Rows.laid_unicode_utf8_first)]
theorem tabIs_of_reads {P : Program} {W : World} {name : String} {k : IntKind} {zs : List Int} {g : Nat} {t e : TypeId} {n : Nat}
    (hg : P.globalNamed name = some g) (hty : (P.globals[g]?).map (·.type) = some t) (ht : P.underlying t = some (.array n e)) (he : P.underlying e = some (.int k)) (hce : P.cellsOf e = 1) (hct : P.cellsOf t = n)
    (h : Lib.VarReads P W name (Lib.tabData k zs)) : Lib.TabIs P W name k zs := by
  obtain ⟨g', t', cs, fuel, p, hg', ht', hvar, hd⟩ := h
  obtain rfl := Option.some.inj (hg.symm.trans hg')
  obtain rfl := Option.some.inj (hty.symm.trans ht')
  unfold Lib.TabIs
  rw [hvar, ← Lib.cells_of_tab ht he hce hct hd]
theorem pow_at : (Rows.laid_internal_strconv_uint64pow10 : DataW Unit) = Lib.tabData .u64 Lib.pow10Tab := by kernel_rfl
theorem db64_at : (Rows.laid_math_bits_deBruijn64tab : DataW Unit) = Lib.tabData .u8 db64Tab := by kernel_rfl
theorem gl_rng : Tryz.prog.globalNamed "strconv.ErrRange" = some 3 := by kernel_rfl
theorem rng_of_reads {W : World} (h : Lib.VarReads Tryz.prog W "strconv.ErrRange" Rows.laid_strconv_ErrRange) : ∃ te pe, W.cell? ⟨3, 0, none⟩ = some (.iface te pe) := by
  obtain ⟨g', t', cs, fuel, p, hg', ht', hv, hd⟩ := h
  obtain rfl := Option.some.inj (gl_rng.symm.trans hg')
  obtain rfl := Option.some.inj ((show (Tryz.prog.globals[3]?).map (·.type) = some 58 by kernel_rfl).symm.trans ht')
  obtain ⟨f1, u, v, hcs, _⟩ := iface_of_trod Tryz.underlying58 hd
  refine ⟨u, v, ?_⟩
  obtain ⟨l⟩ := cs
  have hcs' : l = [.iface u v] := hcs
  subst hcs'
  simpa using World.var?_cell hg' hv 0
/-- What the walks ask, out of the row's list and the world's shape. -/
theorem gl_of_laid {W : World} (h : laidMet Tryz.prog laidAll W) (hs : W.ShapedOpen Tryz.prog) : Gl W where
  pow := tabIs_of_reads gl_pow (t := 137) (e := 74) (n := 20) (by kernel_rfl) (by kernel_rfl) (by kernel_rfl) (by kernel_rfl) (by kernel_rfl) (Lib.laidMet.reads h (show _ from pow_at ▸ .tail _ (.tail _ (.head _))))
  db64 := tabIs_of_reads gl_db64 (t := 154) (e := 5) (n := 64) (by kernel_rfl) (by kernel_rfl) (by kernel_rfl) (by kernel_rfl) (by kernel_rfl) (Lib.laidMet.reads h (show _ from db64_at ▸ .tail _ (.head _)))
  mx := Go.Proofs.cell_of_shapedOpen_int (zero := #[.int .i64 0]) (t := 3) hs (of_decide_eq_true (by kernel_rfl)) (by kernel_rfl) rfl (by kernel_rfl) (by kernel_rfl) Tryz.underlying3
  rng := rng_of_reads (Lib.laidMet.reads h (.tail _ (.tail _ (.tail _ (.tail _ (.head _))))))
/-- The other table. -/
def db32Tab : List Int := [0, 1, 28, 2, 29, 14, 24, 3, 30, 22, 20, 15, 25, 17, 4, 8, 31, 27, 13, 23, 21, 19, 16, 7, 26, 12, 18, 6, 11, 5, 10, 9]
abbrev tooLarge : ByteArray := { data := #[98, 121, 116, 101, 115, 46, 66, 117, 102, 102, 101, 114, 58, 32, 116, 111, 111, 32, 108, 97, 114, 103, 101] }
noncomputable def low : Nat := (World.holding Tryz.prog default ⟨#[], #[], []⟩).heap.size
/-- A datum's cells, where it is of whole numbers. -/
def flatIn : DataW Unit → List Value
  | .lit (.int k z) => [.int k z]
  | .agg l => l.flatMap fun
    | .lit (.int k z) => [.int k z]
    | .agg m => m.flatMap fun
      | .lit (.int k z) => [.int k z]
      | _ => []
    | _ => []
  | _ => []
/-- A world that holds what the list says: the settled one, with a block more for each error. -/
noncomputable def laidWorld (os : Os) : World :=
  let w0 := World.holding Tryz.prog os ⟨#[.cells #[.string tooLarge] 151, .cells #[.string ⟨#[118, 97, 108, 117, 101, 32, 111, 117, 116, 32, 111, 102, 32, 114, 97, 110, 103, 101]⟩] 151, .cells #[.string ⟨#[105, 110, 118, 97, 108, 105, 100, 32, 115, 121, 110, 116, 97, 120]⟩] 151], #[], []⟩
  let put (h : Array Obj) (g : Nat) (cs : Array Value) : Array Obj := h.modify g fun
    | .cells _ t frozen => .cells cs t frozen
    | o => o
  let h1 := put w0.heap 0 #[.iface 149 (.pointer (some ⟨low, 0, none⟩))]
  let h2 := put h1 4 (Lib.pow10Tab.map fun z => Value.int .u64 z).toArray
  let h3 := put h2 7 (db32Tab.map fun z => Value.int .u8 z).toArray
  let h4 := put h3 8 (db64Tab.map fun z => Value.int .u8 z).toArray
  let h5 := put h4 3 #[.iface 149 (.pointer (some ⟨low + 1, 0, none⟩))]
  let h6 := put h5 2 #[.iface 149 (.pointer (some ⟨low + 2, 0, none⟩))]
  let h7 := put h6 6 (flatIn Rows.laid_unicode_utf8_acceptRanges).toArray
  let h8 := put h7 5 (flatIn Rows.laid_unicode_utf8_first).toArray
  { w0 with heap := h8 }
theorem laid_met (os : Os) (args : Array Value) : laidMet Tryz.prog laidAll ((laidWorld os).forCall (fun _ _ => 0) ⟨#[], args, []⟩).memory :=
  laidMet_of_run' 8 (by kernel_rfl) (by kernel_rfl)
end Go.Proofs.YtfnahihdkbgleaaGreatDoor

namespace Go.Proofs.YtfnahihdkbgleaaGreatDoor.Z
open Go.ChangeShapes Go.WideShapes Go.ChangeAt Go.RowKit Go.Proofs.YtfnahihdkbgleaaGreatDoorW.PrintWords Go.Proofs.YtfnahihdkbgleaaGreatDoorW.PrintLast Go.Proofs.YtfnahihdkbgleaaGreatDoorW.PrintMore Go.Proofs.YtfnahihdkbgleaaGreatDoor
set_option linter.unusedVariables false
set_option maxRecDepth 100000
/-- Bytes. -/
def Bytes_ (l : List Int) : Prop := ∀ c ∈ l, 0 ≤ c ∧ c < 256
def IsRow (k : IntKind) (w : World) (a : Option Addr) (len cap : Nat) (zs : List Int) : Prop :=
  (a = none ∧ len = 0 ∧ cap = 0 ∧ zs = []) ∨
  ∃ x, a = some x ∧ len ≤ cap ∧ cap ≤ maxLen ∧ zs.length = cap ∧ (∀ i, i < zs.length → w.cell? (x.add i) = some (.int k (zs.getD i 0))) ∧ ∀ n ∈ zs, (Lit.int k n).wf = true
theorem u8_of {c : Int} (h : (Lit.int .u8 c).wf = true) : 0 ≤ c ∧ c < 256 := by
  have := bounds_u8 h
  omega
variable {H : Type} {enc : TypeId × Value → H} {W : World}
/-- A slice of bytes, as cells. -/
theorem bytes_cells {fuel : Nat} {cs : List Value} {x : DataW H × List MemPlace} (h : DataW.trod enc Tryz.prog W 0 (fun _ => true) true fuel 23 cs = some x) :
    ∃ (A : Option Addr) (c : Nat) (l : List Int), cs = [.slice A l.length c] ∧ Kd.C (Kd.int .u8) W A l.length l ∧ l.length ≤ c ∧ l.length ≤ maxLen ∧ Bytes_ l := by
  obtain ⟨A, len, cap, zs, rfl, w⟩ : ∃ A len cap zs, cs = [.slice A len cap] ∧ IsRow .u8 W A len cap zs := by
    rcases open_ints Tryz.underlying23 Tryz.underlying5 (by kernel_rfl) h with ⟨hcs, _⟩ | ⟨x, l, c, zs, hcs, _, hl, hm, hz, _, hcell, hwz⟩
    · exact ⟨none, 0, 0, [], hcs, .inl ⟨rfl, rfl, rfl, rfl⟩⟩
    · exact ⟨some x, l, c, zs, hcs, .inr ⟨_, rfl, hl, hm, by simpa using hz, hcell, hwz⟩⟩
  obtain ⟨l, rfl, hr, hm, hw, hc⟩ := ReadsInt.ofRowC w
  exact ⟨A, cap, l, rfl, Kd.C_of_reads (d := (0 : Int)) (h1 := fun _ => rfl) hr, hc, hm, fun c hcm => u8_of (hw c hcm)⟩
def ItIs (y : It) : Prop := ((0 ≤ y.f0 ∧ y.f0 < 256) ∧ ∀ b ∈ y.f2, 0 ≤ b ∧ b < 256) ∧ y.f1.size ≤ 9223372036854775807
theorem take_one {cs : List Value} {i : Nat} {v : Value} (h : (cs.drop i).take 1 = [v]) : cs[i]? = some v := by
  have : ((cs.drop i).take 1)[0]? = some v := by rw [h]; rfl
  simpa [List.getElem?_take, List.getElem?_drop] using this
theorem three {cs : List Value} {a b c : Value} (hl : cs.length = 3) (h0 : cs[0]? = some a) (h1 : cs[1]? = some b) (h2 : cs[2]? = some c) : cs = [a, b, c] := by
  match cs, hl with
  | [x, y, z], _ => simp at h0 h1 h2; simp [h0, h1, h2]
/-- An item, as cells. -/
theorem item_cells {fuel : Nat} {cs : List Value} {x : DataW H × List MemPlace} (h : DataW.trod enc Tryz.prog W 0 (fun _ => true) true fuel 37 cs = some x) : ∃ y : It, k37.K W y cs ∧ ItIs y := by
  obtain ⟨xs, n, rfl, _, hl, hxl, hall⟩ := DataW.trod_struct Tryz.underlying37 h
  have hc29 : Tryz.prog.cellsOf 37 = 3 := by kernel_rfl
  have hc5 : Tryz.prog.cellsOf 5 = 1 := by kernel_rfl
  have hc9 : Tryz.prog.cellsOf 9 = 1 := by kernel_rfl
  have hc22 : Tryz.prog.cellsOf 23 = 1 := by kernel_rfl
  have hx3 : xs.length = 3 := hxl
  have f0 : DataW.trod enc Tryz.prog W 0 (fun _ => true) true n 5 ((cs.drop 0).take (Tryz.prog.cellsOf 5)) = xs[0]? := hall 0 _ rfl
  have f1 : DataW.trod enc Tryz.prog W 0 (fun _ => true) true n 9 ((cs.drop 1).take (Tryz.prog.cellsOf 9)) = xs[1]? := hall 1 _ rfl
  have f2 : DataW.trod enc Tryz.prog W 0 (fun _ => true) true n 23 ((cs.drop 2).take (Tryz.prog.cellsOf 23)) = xs[2]? := hall 2 _ rfl
  rw [hc5, List.getElem?_eq_getElem (by omega)] at f0
  rw [hc9, List.getElem?_eq_getElem (by omega)] at f1
  rw [hc22, List.getElem?_eq_getElem (by omega)] at f2
  obtain ⟨a, ha, _, hw⟩ := DataW.trod_int Tryz.underlying5 f0
  obtain ⟨s, hs, _, hz⟩ := DataW.trod_string Tryz.underlying9 f1
  obtain ⟨A, c, l, hb, hC, hlc, _, hby⟩ := bytes_cells f2
  have e := three (by rw [hl, hc29]) (take_one ha) (take_one hs) (take_one hb)
  subst e
  exact ⟨⟨a, s, l⟩, k37_mk W ⟨a, s, l⟩ hlc hC, ⟨u8_of hw, hby⟩, hz⟩
theorem cells_at {a : Addr} {n : Nat} {cs : List Value} (h : W.cells? 0 a n = some cs) : cs.length = n ∧ ∀ j u, cs[j]? = some u → W.cell? (a.add j) = some u := by
  unfold World.cells? at h
  rw [if_pos (Nat.zero_le _)] at h
  have hl := mapM_some_length h
  rw [List.length_range] at hl
  refine ⟨hl, fun j u hu => ?_⟩
  have hj : j < n := by
    have := (List.getElem?_eq_some_iff.1 hu).1
    omega
  rw [← hu]
  exact mapM_some_get h j j (by simp [hj])
theorem pick_list {α : Type} {p : Nat → α → Prop} : ∀ (n : Nat), (∀ i, i < n → ∃ y, p i y) → ∃ l : List α, l.length = n ∧ ∀ i y, l[i]? = some y → p i y
  | 0, _ => ⟨[], rfl, fun i y h => by simp at h⟩
  | n + 1, h => by
    obtain ⟨l, hl, hp⟩ := pick_list n (fun i hi => h i (by omega))
    obtain ⟨y, hy⟩ := h n (by omega)
    refine ⟨l ++ [y], by simp [hl], fun i z hz => ?_⟩
    by_cases hi : i < l.length
    · rw [List.getElem?_append_left hi] at hz
      exact hp i z hz
    · have hil : i < (l ++ [y]).length := (List.getElem?_eq_some_iff.1 hz).1
      rw [List.length_append, List.length_singleton] at hil
      have : i = l.length := by omega
      subst this
      rw [List.getElem?_append_right (Nat.le_refl _)] at hz
      simp at hz
      subst hz
      rw [hl]
      exact hy
/-- A slice of items. -/
theorem items_cells {fuel : Nat} {cs : List Value} {x : DataW H × List MemPlace} (h : DataW.trod enc Tryz.prog W 0 (fun _ => true) true fuel 22 cs = some x) :
    ∃ (A : Option Addr) (c : Nat) (l : List It), cs = [.slice A l.length c] ∧ Kd.C k37 W A l.length l ∧ l.length ≤ c ∧ l.length ≤ maxLen ∧ ∀ y ∈ l, ItIs y := by
  have hc29 : Tryz.prog.cellsOf 37 = 3 := by kernel_rfl
  rcases DataW.trod_slice Tryz.underlying22 h with ⟨rfl, _⟩ | ⟨a, len, cap, elems, rest, n, _, rfl, _, _, hl, hm, hlen, hel, _, _⟩
  · exact ⟨none, 0, [], rfl, ⟨rfl, Nat.zero_le _, fun h => absurd h (by decide)⟩, Nat.zero_le _, Nat.zero_le _, fun y hy => by cases hy⟩
  · obtain ⟨l, hll, hp⟩ := pick_list (p := fun i (y : It) => ∃ c, c.length = 3 ∧ k37.K W y c ∧ (∀ j u, c[j]? = some u → W.cell? (a.add (i * 3 + j)) = some u) ∧ ItIs y) len (fun i hi => by
      have e := hel i hi
      rw [hc29, List.getElem?_eq_getElem (by omega)] at e
      obtain ⟨c, hc, ht⟩ := Option.bind_eq_some_iff.1 e
      obtain ⟨hcl, hcc⟩ := cells_at hc
      obtain ⟨y, hK, hI⟩ := item_cells ht
      exact ⟨y, c, hcl, hK, fun j u hu => by rw [← Addr.add_add]; exact hcc j u hu, hI⟩)
    subst hll
    refine ⟨some a, cap, l, rfl, ⟨rfl, by have : l.length ≤ maxLen := Nat.le_trans hl hm; exact this, fun _ => ⟨a, rfl, fun j y hj => ?_⟩⟩, hl, Nat.le_trans hl hm, fun y hy => ?_⟩
    · obtain ⟨c, h1, h2, h3, _⟩ := hp j y hj
      exact ⟨c, h1, h2, h3⟩
    · obtain ⟨j, hj⟩ := List.mem_iff_getElem?.1 hy
      exact (hp j y hj).elim fun c h => h.2.2.2
/-- The arguments. -/
theorem bytes_arg {v : Value} {d : DataW H} {p : List MemPlace} {base : Nat} (hv : Value.okWide Tryz.prog W .any base 23 v) (h : DataW.Trod enc Tryz.prog W 0 (fun _ => true) true 23 v d p) :
    ∃ (A : Option Addr) (c : Nat) (l : List Int), v = .slice A l.length c ∧ Kd.C (Kd.int .u8) W A l.length l ∧ l.length ≤ c ∧ l.length ≤ maxLen ∧ Bytes_ l := by
  obtain ⟨a, len, cap, rfl⟩ := okWide_slice Tryz.underlying23 hv
  obtain ⟨fuel, hf⟩ := h
  obtain ⟨A, c, l, e, h1, h2, h3, h4⟩ := bytes_cells hf
  simp [Value.cells] at e
  obtain ⟨rfl, rfl, rfl⟩ := e
  exact ⟨_, _, l, rfl, h1, h2, h3, h4⟩
theorem items_arg {v : Value} {d : DataW H} {p : List MemPlace} {base : Nat} (hv : Value.okWide Tryz.prog W .any base 22 v) (h : DataW.Trod enc Tryz.prog W 0 (fun _ => true) true 22 v d p) :
    ∃ (A : Option Addr) (c : Nat) (l : List It), v = .slice A l.length c ∧ Kd.C k37 W A l.length l ∧ l.length ≤ c ∧ l.length ≤ maxLen ∧ ∀ y ∈ l, ItIs y := by
  obtain ⟨a, len, cap, rfl⟩ := okWide_slice Tryz.underlying22 hv
  obtain ⟨fuel, hf⟩ := h
  obtain ⟨A, c, l, e, h1, h2, h3, h4⟩ := items_cells hf
  simp [Value.cells] at e
  obtain ⟨rfl, rfl, rfl⟩ := e
  exact ⟨_, _, l, rfl, h1, h2, h3, h4⟩
theorem item_arg {v : Value} {d : DataW H} {p : List MemPlace} {base : Nat} (hv : Value.okWide Tryz.prog W .any base 37 v) (h : DataW.Trod enc Tryz.prog W 0 (fun _ => true) true 37 v d p) :
    ∃ (A : Option Addr) (c : Nat) (y : It), v = .agg #[.int .u8 y.f0, .string y.f1, .slice A y.f2.length c] ∧ Kd.C (Kd.int .u8) W A y.f2.length y.f2 ∧ y.f2.length ≤ c ∧ ItIs y := by
  obtain ⟨cs, rfl, hs⟩ := okWide_struct Tryz.underlying37 hv
  obtain ⟨fuel, hf⟩ := h
  obtain ⟨y, hK, hI⟩ := item_cells hf
  obtain ⟨A2, c2, e, h1, h2⟩ := k37_open hK
  have e' : cs.toList = [.int .u8 y.f0, .string y.f1, .slice A2 y.f2.length c2] := e
  refine ⟨A2, c2, y, ?_, h2, h1, hI⟩
  congr 1
  exact Array.toList_inj.1 e'
end Go.Proofs.YtfnahihdkbgleaaGreatDoor.Z
