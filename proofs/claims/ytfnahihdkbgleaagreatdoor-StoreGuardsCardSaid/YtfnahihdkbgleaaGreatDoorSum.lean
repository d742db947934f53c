/- The printed function of Sum computes the cyclic sum. -/
import Derived.Test.YtfnahihdkbgleaaGreatDoorZ1
/- The cyclic sum: plain Lean. -/
namespace Go.Proofs.YtfnahihdkbgleaaGreatDoor
def crcPoly : BitVec 32 := 0xEDB88320#32
/-- One bit of the sum. -/
def crcBit (x : BitVec 32) : BitVec 32 := (x >>> 1) ^^^ (crcPoly * (x &&& 1#32))
def crcBits : Nat → BitVec 32 → BitVec 32
  | 0, x => x
  | n + 1, x => crcBits n (crcBit x)
/-- One byte of the sum. -/
def crcByte (x c : BitVec 32) : BitVec 32 := crcBits 8 (x ^^^ c)
def crcFold (x : BitVec 32) (l : List (BitVec 32)) : BitVec 32 := l.foldl crcByte x
/-- The sum of numbers that are bytes. -/
def crcSum (l : List Int) : BitVec 32 := ~~~ crcFold (BitVec.allOnes 32) (l.map (BitVec.ofInt 32))
theorem crcBit_xor (x y : BitVec 32) : crcBit (x ^^^ y) = crcBit x ^^^ crcBit y := by
  have one : ∀ z : BitVec 32, crcPoly * (z &&& 1#32) = if z.getLsbD 0 then crcPoly else 0#32 := by
    intro z
    have h : z &&& 1#32 = if z.getLsbD 0 then 1#32 else 0#32 := by
      apply BitVec.eq_of_getLsbD_eq
      intro i hi
      rw [BitVec.getLsbD_and]
      rcases Nat.eq_zero_or_pos i with rfl | hp
      · cases z.getLsbD 0 <;> simp
      · have h1 : (1#32).getLsbD i = false := by
          rw [BitVec.getLsbD_one]
          simp
          omega
        rw [h1, Bool.and_false]
        cases z.getLsbD 0 <;> simp [h1]
    rw [h]
    cases z.getLsbD 0 <;> simp
  unfold crcBit
  rw [one, one, one, BitVec.getLsbD_xor]
  apply BitVec.eq_of_getLsbD_eq
  intro i hi
  cases x.getLsbD 0 <;> cases y.getLsbD 0 <;> simp [BitVec.getLsbD_xor, BitVec.getLsbD_ushiftRight] <;> generalize x.getLsbD (1 + i) = p <;> generalize y.getLsbD (1 + i) = q <;> generalize crcPoly.getLsbD i = r <;> cases p <;> cases q <;> cases r <;> rfl
theorem crcBits_xor (n : Nat) (x y : BitVec 32) : crcBits n (x ^^^ y) = crcBits n x ^^^ crcBits n y := by
  induction n generalizing x y with
  | zero => rfl
  | succ n ih => rw [crcBits, crcBit_xor, ih]; rfl
theorem crcByte_xor (x y a b : BitVec 32) : crcByte (x ^^^ y) (a ^^^ b) = crcByte x a ^^^ crcByte y b := by
  unfold crcByte
  rw [← crcBits_xor]
  congr 1
  ac_rfl
theorem crcFold_xor3 : ∀ (a b c : List (BitVec 32)) (x y z : BitVec 32), a.length = b.length → b.length = c.length →
    crcFold (x ^^^ y ^^^ z) (List.zipWith (· ^^^ ·) (List.zipWith (· ^^^ ·) a b) c) = crcFold x a ^^^ crcFold y b ^^^ crcFold z c
  | [], [], [], _, _, _, _, _ => rfl
  | a :: l, b :: m, c :: n, x, y, z, h1, h2 => by
    show crcFold (crcByte (x ^^^ y ^^^ z) (a ^^^ b ^^^ c)) _ = crcFold (crcByte x a) l ^^^ crcFold (crcByte y b) m ^^^ crcFold (crcByte z c) n
    rw [crcByte_xor, crcByte_xor]
    exact crcFold_xor3 l m n _ _ _ (by simpa using h1) (by simpa using h2)
  | [], _ :: _, _, _, _, _, h, _ => by simp at h
  | _ :: _, [], _, _, _, _, h, _ => by simp at h
  | [], [], _ :: _, _, _, _, _, h => by simp at h
  | _ :: _, _ :: _, [], _, _, _, _, h => by simp at h
theorem not_xor3 (x y z : BitVec 32) : ~~~ (x ^^^ y ^^^ z) = ~~~ x ^^^ ~~~ y ^^^ ~~~ z := by
  apply BitVec.eq_of_getLsbD_eq
  intro i hi
  simp [hi]
end Go.Proofs.YtfnahihdkbgleaaGreatDoor

namespace Go.Proofs.YtfnahihdkbgleaaGreatDoor.Z
open Go.RowKit Go.Proofs.YtfnahihdkbgleaaGreatDoorW.PrintWords
theorem u32_bits (op : BinOp) (X Y : BitVec 32) : Go.bits op .u32 (X.toNat : Int) (Y.toNat : Int) = ((match op with
    | .and => X &&& Y
    | .or => X ||| Y
    | .xor => X ^^^ Y
    | _ => X &&& ~~~Y : BitVec 32).toNat : Int) := by
  have h : ∀ Z : BitVec 32, IntKind.u32.wrap (Z.toNat : Int) = (Z.toNat : Int) := fun Z => by
    have := Z.isLt
    rw [IntKind.wrap_u32]; omega
  have ha : BitVec.ofInt 32 (X.toNat : Int) = X := by simp
  have hb : BitVec.ofInt 32 (Y.toNat : Int) = Y := by simp
  have hx : BitVec.ofInt IntKind.u32.bits (X.toNat : Int) = X := ha
  have hy : BitVec.ofInt IntKind.u32.bits (Y.toNat : Int) = Y := hb
  unfold Go.bits
  simp only [hx, hy]
  cases op <;> exact h _
theorem sum_bit (X : BitVec 32) : Go.bits .xor .u32 ((X.toNat : Int) / 2) ((3988292384 * (Go.bits .and .u32 (X.toNat : Int) 1)) % 4294967296) = ((crcBit X).toNat : Int) := by
  have h1 : Go.bits .and .u32 (X.toNat : Int) 1 = ((X &&& 1#32).toNat : Int) := u32_bits .and X 1#32
  have h2 : (3988292384 * ((X &&& 1#32).toNat : Int)) % 4294967296 = ((crcPoly * (X &&& 1#32)).toNat : Int) := by
    rw [BitVec.toNat_mul]
    show _ = (((3988292384 * (X &&& 1#32).toNat) % 4294967296 : Nat) : Int)
    omega
  have h3 : ((X.toNat : Int) / (2 : Int) : Int) = ((X >>> 1).toNat : Int) := by
    rw [BitVec.toNat_ushiftRight, Nat.shiftRight_eq_div_pow]
    omega
  rw [h1, h2, h3]
  exact u32_bits .xor _ _
theorem sum_l1 (l : List Int) (n i : Int) (r : Int) : ∀ (j : Nat) (X : BitVec 32), j ≤ 8 → Ev (fun k => store_Sum.l0 k ((crcBits j X).toNat : Int) l n (wrap64 (i + 1))) r →
    Ev (fun k => store_Sum.l1 k (X.toNat : Int) l n i ((8 - j : Nat) : Int)) r
  | 0, X, _, h => Ev.step (fun k => by simp only [store_Sum.l1]; rw [if_neg (by omega)]; rfl) h
  | j + 1, X, hj, h => by
    refine Ev.step (f := fun k => store_Sum.l1 k ((crcBit X).toNat : Int) l n i ((8 - j : Nat) : Int)) (fun k => ?_) (sum_l1 l n i r j (crcBit X) (by omega) h)
    simp only [store_Sum.l1]
    rw [if_pos (by omega), sum_bit, show wrap64 (((8 - (j + 1) : Nat) : Int) + 1) = ((8 - j : Nat) : Int) from by unfold wrap64; omega]
theorem rd_drop (l : List Int) (i : Nat) (c : Int) (m : List Int) (h : l.drop i = c :: m) : rd l (i : Int) = c := by
  have e : l[i]? = some c := by
    have := congrArg (·[0]?) h
    simpa using this
  unfold rd
  simp [List.getD, e]
theorem sum_l0 (l : List Int) (hl : l.length ≤ 9223372036854775807) : ∀ (m : List Int) (i : Nat) (X : BitVec 32), l.drop i = m → i ≤ l.length → (∀ c ∈ m, 0 ≤ c ∧ c < 256) →
    Ev (fun k => store_Sum.l0 k (X.toNat : Int) l (l.length : Int) (i : Int)) ((~~~ crcFold X (m.map (BitVec.ofInt 32))).toNat : Int)
  | [], i, X, hm, hi, _ => by
    have hlen : l.length ≤ i := by simpa using hm
    refine Ev.step (f := fun _ => some ((~~~ X).toNat : Int)) (fun k => ?_) (Ev.now _)
    simp only [store_Sum.l0]
    rw [if_neg (by omega)]
    have := u32_bits .xor (BitVec.allOnes 32) X
    rw [show (((BitVec.allOnes 32).toNat : Nat) : Int) = 4294967295 from rfl] at this
    rw [this]
    rw [show (BitVec.allOnes 32 ^^^ X : BitVec 32) = ~~~ X from BitVec.allOnes_xor]
  | c :: m, i, X, hm, hi, hb => by
    have hlt : i < l.length := by
      apply Decidable.byContradiction
      intro h
      rw [List.drop_eq_nil_of_le (by omega)] at hm
      cases hm
    have hc := rd_drop l i c m hm
    have hcb := hb c List.mem_cons_self
    have hm' : l.drop (i + 1) = m := by
      have := congrArg (List.drop 1) hm
      simpa [List.drop_drop, Nat.add_comm] using this
    have ih := sum_l0 l hl m (i + 1) (crcByte X (BitVec.ofInt 32 c)) hm' hlt (fun d hd => hb d (List.mem_cons_of_mem _ hd))
    have e1 : wrap64 ((i : Int) + 1) = ((i + 1 : Nat) : Int) := by unfold wrap64; omega
    have h1 := sum_l1 l (l.length : Int) (i : Int) _ 8 (X ^^^ BitVec.ofInt 32 c) (Nat.le_refl _) (by rw [e1]; exact ih)
    refine Ev.step (fun k => ?_) h1
    simp only [store_Sum.l0]
    rw [if_pos (by omega), if_pos (by omega), if_pos (by omega), hc]
    have ec : c % 4294967296 = ((BitVec.ofInt 32 c).toNat : Int) := by
      rw [BitVec.toNat_ofInt]
      show _ = ((c % 4294967296).toNat : Int)
      omega
    rw [ec, u32_bits]
    rfl
theorem Sum_is (l : List Int) (hl : l.length ≤ 9223372036854775807) (hb : ∀ c ∈ l, 0 ≤ c ∧ c < 256) : Ev (fun k => store_Sum.f k l) ((crcSum l).toNat : Int) := by
  have := sum_l0 l hl l 0 (BitVec.allOnes 32) rfl (Nat.zero_le _) hb
  exact this
theorem Sum_calls (l : List Int) (hl : l.length ≤ 9223372036854775807) (hb : ∀ c ∈ l, 0 ≤ c ∧ c < 256) (A0 : Option Addr) (c0 : Nat) (w : World) (hr : Kd.C (Kd.int .u8) w A0 l.length l) (hc : l.length ≤ c0) :
    Calls Tryz.prog 12 #[.slice A0 l.length c0] w fun e w' => e = .returned (.int .u32 ((crcSum l).toNat : Int)) ∧ Drawn0 w w' := by
  obtain ⟨k, hk⟩ := (Sum_is l hl hb).rounds
  exact store_Sum.calls k A0 c0 l _ w hr hc hk
end Go.Proofs.YtfnahihdkbgleaaGreatDoor.Z
