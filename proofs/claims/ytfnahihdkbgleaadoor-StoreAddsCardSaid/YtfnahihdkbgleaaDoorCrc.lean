/- The cyclic sum: plain Lean. -/
namespace Go.Proofs.YtfnahihdkbgleaaDoor
def crcPoly : BitVec 32 := 0xEDB88320#32
/-- One bit of the sum. -/
def crcBit (x : BitVec 32) : BitVec 32 := (x >>> 1) ^^^ (crcPoly * (x &&& 1#32))
def crcBits : Nat → BitVec 32 → BitVec 32
  | 0, x => x
  | n + 1, x => crcBits n (crcBit x)
/-- One byte of the sum. -/
def crcByte (x c : BitVec 32) : BitVec 32 := crcBits 8 (x ^^^ c)
def crcFold (x : BitVec 32) (l : List (BitVec 32)) : BitVec 32 := l.foldl crcByte x
/-- The sum of numbers that are bytes. -/
def crcSum (l : List Int) : BitVec 32 := ~~~ crcFold (BitVec.allOnes 32) (l.map (BitVec.ofInt 32))
theorem crcBit_xor (x y : BitVec 32) : crcBit (x ^^^ y) = crcBit x ^^^ crcBit y := by
  have one : ∀ z : BitVec 32, crcPoly * (z &&& 1#32) = if z.getLsbD 0 then crcPoly else 0#32 := by
    intro z
    have h : z &&& 1#32 = if z.getLsbD 0 then 1#32 else 0#32 := by
      apply BitVec.eq_of_getLsbD_eq
      intro i hi
      rw [BitVec.getLsbD_and]
      rcases Nat.eq_zero_or_pos i with rfl | hp
      · cases z.getLsbD 0 <;> simp
      · have h1 : (1#32).getLsbD i = false := by
          rw [BitVec.getLsbD_one]
          simp
          omega
        rw [h1, Bool.and_false]
        cases z.getLsbD 0 <;> simp [h1]
    rw [h]
    cases z.getLsbD 0 <;> simp
  unfold crcBit
  rw [one, one, one, BitVec.getLsbD_xor]
  apply BitVec.eq_of_getLsbD_eq
  intro i hi
  cases x.getLsbD 0 <;> cases y.getLsbD 0 <;> simp [BitVec.getLsbD_xor, BitVec.getLsbD_ushiftRight] <;> generalize x.getLsbD (1 + i) = p <;> generalize y.getLsbD (1 + i) = q <;> generalize crcPoly.getLsbD i = r <;> cases p <;> cases q <;> cases r <;> rfl
theorem crcBits_xor (n : Nat) (x y : BitVec 32) : crcBits n (x ^^^ y) = crcBits n x ^^^ crcBits n y := by
  induction n generalizing x y with
  | zero => rfl
  | succ n ih => rw [crcBits, crcBit_xor, ih]; rfl
theorem crcByte_xor (x y a b : BitVec 32) : crcByte (x ^^^ y) (a ^^^ b) = crcByte x a ^^^ crcByte y b := by
  unfold crcByte
  rw [← crcBits_xor]
  congr 1
  ac_rfl
theorem crcFold_xor3 : ∀ (a b c : List (BitVec 32)) (x y z : BitVec 32), a.length = b.length → b.length = c.length →
    crcFold (x ^^^ y ^^^ z) (List.zipWith (· ^^^ ·) (List.zipWith (· ^^^ ·) a b) c) = crcFold x a ^^^ crcFold y b ^^^ crcFold z c
  | [], [], [], _, _, _, _, _ => rfl
  | a :: l, b :: m, c :: n, x, y, z, h1, h2 => by
    show crcFold (crcByte (x ^^^ y ^^^ z) (a ^^^ b ^^^ c)) _ = crcFold (crcByte x a) l ^^^ crcFold (crcByte y b) m ^^^ crcFold (crcByte z c) n
    rw [crcByte_xor, crcByte_xor]
    exact crcFold_xor3 l m n _ _ _ (by simpa using h1) (by simpa using h2)
  | [], _ :: _, _, _, _, _, h, _ => by simp at h
  | _ :: _, [], _, _, _, _, h, _ => by simp at h
  | [], [], _ :: _, _, _, _, _, h => by simp at h
  | _ :: _, _ :: _, [], _, _, _, _, h => by simp at h
theorem not_xor3 (x y z : BitVec 32) : ~~~ (x ^^^ y ^^^ z) = ~~~ x ^^^ ~~~ y ^^^ ~~~ z := by
  apply BitVec.eq_of_getLsbD_eq
  intro i hi
  simp [hi]
end Go.Proofs.YtfnahihdkbgleaaDoor
