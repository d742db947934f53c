/- The plain law of StoreSums. -/
import Derived.Test.YtfnahihdkbgleaaDoorZ3
import Derived.Test.YtfnahihdkbgleaaDoorSum
namespace Go.Proofs.YtfnahihdkbgleaaDoor.Z
set_option linter.unusedVariables false
open Go.RowKit Go.Proofs.YtfnahihdkbgleaaDoorW.PrintWords Go.Proofs.YtfnahihdkbgleaaDoorW.PrintMore
def Bytes_ (l : List Int) : Prop := ∀ c ∈ l, 0 ≤ c ∧ c < 256
def xor3 (a b c : Int) : Int := Go.bits .xor .u8 (Go.bits .xor .u8 a b) c
theorem u8_xor (X Y : BitVec 8) : Go.bits .xor .u8 (X.toNat : Int) (Y.toNat : Int) = ((X ^^^ Y).toNat : Int) := by
  have h : ∀ Z : BitVec 8, IntKind.u8.wrap (Z.toNat : Int) = (Z.toNat : Int) := fun Z => by
    have := Z.isLt
    rw [IntKind.wrap_u8]; omega
  have hx : BitVec.ofInt IntKind.u8.bits (X.toNat : Int) = X := by
    show BitVec.ofInt 8 (X.toNat : Int) = X
    simp
  have hy : BitVec.ofInt IntKind.u8.bits (Y.toNat : Int) = Y := by
    show BitVec.ofInt 8 (Y.toNat : Int) = Y
    simp
  unfold Go.bits
  simp only [hx, hy]
  exact h _
theorem byte_vec {a : Int} (h : 0 ≤ a ∧ a < 256) : ∃ A : BitVec 8, a = (A.toNat : Int) := ⟨BitVec.ofInt 8 a, by
  rw [BitVec.toNat_ofInt]
  show _ = ((a % 256).toNat : Int)
  omega⟩
theorem wide_vec (A : BitVec 8) : BitVec.ofInt 32 (A.toNat : Int) = A.setWidth 32 := by
  apply BitVec.eq_of_toNat_eq
  rw [BitVec.toNat_ofInt, BitVec.toNat_setWidth]
  have := A.isLt
  show (((A.toNat : Int) % 4294967296).toNat) = A.toNat % 4294967296
  omega
theorem xor3_byte {a b c : Int} (ha : 0 ≤ a ∧ a < 256) (hb : 0 ≤ b ∧ b < 256) (hc : 0 ≤ c ∧ c < 256) :
    (0 ≤ xor3 a b c ∧ xor3 a b c < 256) ∧ BitVec.ofInt 32 (xor3 a b c) = BitVec.ofInt 32 a ^^^ BitVec.ofInt 32 b ^^^ BitVec.ofInt 32 c := by
  obtain ⟨A, rfl⟩ := byte_vec ha
  obtain ⟨B, rfl⟩ := byte_vec hb
  obtain ⟨C, rfl⟩ := byte_vec hc
  unfold xor3
  rw [u8_xor, u8_xor]
  refine ⟨?_, ?_⟩
  · have := (A ^^^ B ^^^ C).isLt
    omega
  · rw [wide_vec, wide_vec, wide_vec, wide_vec, BitVec.setWidth_xor, BitVec.setWidth_xor]
def xors (n : Nat) (a b c : List Int) : List Int := (List.range n).map fun i => xor3 (a.getD i 0) (b.getD i 0) (c.getD i 0)
theorem getD_byte {a : List Int} (h : Bytes_ a) (i : Nat) : 0 ≤ a.getD i 0 ∧ a.getD i 0 < 256 := by
  rw [List.getD_eq_getElem?_getD]
  by_cases hi : i < a.length
  · rw [List.getElem?_eq_getElem hi]
    exact h _ (List.getElem_mem hi)
  · rw [List.getElem?_eq_none (by omega)]
    decide
theorem xors_bytes {a b c : List Int} (ha : Bytes_ a) (hb : Bytes_ b) (hc : Bytes_ c) (n : Nat) : Bytes_ (xors n a b c) := by
  intro x hx
  obtain ⟨i, _, rfl⟩ := List.mem_map.1 hx
  exact (xor3_byte (getD_byte ha i) (getD_byte hb i) (getD_byte hc i)).1
theorem take_bytes {a : List Int} (ha : Bytes_ a) (n : Nat) : Bytes_ (a.take n) := fun x hx => ha x (List.mem_of_mem_take hx)
theorem xors_vec {a b c : List Int} (ha : Bytes_ a) (hb : Bytes_ b) (hc : Bytes_ c) (n : Nat) (h1 : n ≤ a.length) (h2 : n ≤ b.length) (h3 : n ≤ c.length) :
    (xors n a b c).map (BitVec.ofInt 32) = List.zipWith (· ^^^ ·) (List.zipWith (· ^^^ ·) ((a.take n).map (BitVec.ofInt 32)) ((b.take n).map (BitVec.ofInt 32))) ((c.take n).map (BitVec.ofInt 32)) := by
  apply List.ext_getElem?
  intro i
  by_cases hi : i < n
  · have g : ∀ l : List Int, n ≤ l.length → ((l.take n).map (BitVec.ofInt 32))[i]? = some (BitVec.ofInt 32 (l.getD i 0)) := by
      intro l hl
      have : i < l.length := by omega
      simp [hi, this]
    rw [List.getElem?_zipWith, List.getElem?_zipWith, g a h1, g b h2, g c h3]
    unfold xors
    simp only [List.map_map, List.getElem?_map, List.getElem?_range hi, Option.map_some, Function.comp]
    rw [(xor3_byte (getD_byte ha i) (getD_byte hb i) (getD_byte hc i)).2]
  · rw [List.getElem?_eq_none (by simp [xors]; omega), List.getElem?_eq_none (by simp; omega)]
theorem sums_xor {a b c : List Int} (ha : Bytes_ a) (hb : Bytes_ b) (hc : Bytes_ c) (n : Nat) (h1 : n ≤ a.length) (h2 : n ≤ b.length) (h3 : n ≤ c.length) :
    crcSum (xors n a b c) = crcSum (a.take n) ^^^ crcSum (b.take n) ^^^ crcSum (c.take n) := by
  unfold crcSum
  rw [xors_vec ha hb hc n h1 h2 h3, ← not_xor3, ← crcFold_xor3 _ _ _ _ _ _ (by simp; omega) (by simp; omega)]
  congr 2
theorem rd_getD (l : List Int) (i : Nat) : rd l (i : Int) = l.getD i 0 := rfl
theorem sums_loop (a b c : List Int) (ha : Bytes_ a) (hb : Bytes_ b) (hc : Bytes_ c) (n : Nat) (h1 : n ≤ a.length) (h2 : n ≤ b.length) (h3 : n ≤ c.length) (hn : n ≤ 5000) :
    ∀ (d i : Nat), i + d = n → Ev (fun k => inquestlaw37_StoreSums.l0 k a b c (n : Int) (xors i a b c) (i : Int)) true
  | 0, i, hi => by
    obtain rfl : i = n := by omega
    have big : ∀ l : List Int, (l.take i).length ≤ 9223372036854775807 := fun l => by rw [List.length_take]; omega
    have s0 := Sum_is (xors i a b c) (by simp [xors]; omega) (xors_bytes ha hb hc i)
    have s1 := Sum_is (a.take i) (big a) (take_bytes ha i)
    have s2 := Sum_is (b.take i) (big b) (take_bytes hb i)
    have s3 := Sum_is (c.take i) (big c) (take_bytes hc i)
    obtain ⟨K0, s0⟩ := s0
    obtain ⟨K1, s1⟩ := s1
    obtain ⟨K2, s2⟩ := s2
    obtain ⟨K3, s3⟩ := s3
    dsimp only at s0 s1 s2 s3
    refine ⟨K0 + K1 + K2 + K3 + 1, fun k hk => ?_⟩
    obtain ⟨k, rfl⟩ : ∃ m, k = m + 1 := ⟨k - 1, by omega⟩
    simp only [inquestlaw37_StoreSums.l0]
    rw [if_neg (by omega), s0 k (by omega)]
    simp only [Option.bind_some]
    rw [if_pos (by omega), if_pos (by omega), Int.toNat_natCast, s1 k (by omega)]
    simp only [Option.bind_some]
    rw [if_pos (by omega), s2 k (by omega)]
    simp only [Option.bind_some]
    rw [if_pos (by omega), s3 k (by omega)]
    simp only [Option.bind_some]
    rw [sums_xor ha hb hc i h1 h2 h3, u32_bits, u32_bits, if_pos rfl]
    rfl
  | d + 1, i, hi => by
    have ih := sums_loop a b c ha hb hc n h1 h2 h3 hn d (i + 1) (by omega)
    refine Ev.step (fun k => ?_) ih
    simp only [inquestlaw37_StoreSums.l0]
    have hx : (xors i a b c).length = i := by simp [xors]
    rw [if_pos (by omega), if_pos (by omega), if_pos (by omega), if_pos (by omega), if_pos (by omega), if_pos (by rw [hx]; omega)]
    have e1 : wrap64 ((i : Int) + 1) = ((i + 1 : Nat) : Int) := by unfold wrap64; omega
    have e2 : xors i a b c ++ [Go.bits .xor .u8 (Go.bits .xor .u8 (rd a i) (rd b i)) (rd c i)] = xors (i + 1) a b c := by
      unfold xors
      rw [List.range_succ, List.map_append]
      rfl
    rw [e1, e2]
theorem StoreSums_pure (a b c : List Int) (ha : Bytes_ a) (hb : Bytes_ b) (hc : Bytes_ c) : ∃ k, inquestlaw37_StoreSums.f k a b c = some true := by
  have h := sums_loop a b c ha hb hc (min (min (min a.length b.length) c.length) 5000) (by omega) (by omega) (by omega) (by omega) (min (min (min a.length b.length) c.length) 5000) 0 (by omega)
  obtain ⟨k, hk⟩ := h.rounds
  refine ⟨k, ?_⟩
  unfold inquestlaw37_StoreSums.f
  have e : mn (mn (mn (a.length : Int) (b.length : Int)) (c.length : Int)) 5000 = ((min (min (min a.length b.length) c.length) 5000 : Nat) : Int) := by
    unfold mn
    omega
  rw [e]
  exact hk
end Go.Proofs.YtfnahihdkbgleaaDoor.Z
