/- inquestlaw37.StoreGuards, walked: it answers true. -/
import Derived.Test.YtfnahihdkbgleaaGreatDoorSum
import Derived.Test.YtfnahihdkbgleaaGreatDoorPFile
import Derived.Test.YtfnahihdkbgleaaGreatDoorLives
import Derived.Test.YtfnahihdkbgleaaGreatDoorPBack
import Derived.Lib.ConvBytes
/- The cyclic sum finds a burst: texts that differ in up to four bytes, one behind the other, have other sums. -/
namespace Go.Proofs.YtfnahihdkbgleaaGreatDoor
set_option linter.unusedVariables false
theorem crcBit_even (m : Nat) (h : m * 2 < 2 ^ 32) : crcBit (BitVec.ofNat 32 (m * 2)) = BitVec.ofNat 32 m := by
  unfold crcBit
  have h0 : BitVec.ofNat 32 (m * 2) &&& 1#32 = 0#32 := by
    apply BitVec.eq_of_toNat_eq
    rw [BitVec.toNat_and, BitVec.toNat_ofNat, Nat.mod_eq_of_lt h]
    show m * 2 &&& 1 = 0
    rw [Nat.and_one_is_mod]
    omega
  rw [h0, BitVec.mul_zero, BitVec.xor_zero]
  apply BitVec.eq_of_toNat_eq
  rw [BitVec.toNat_ushiftRight, BitVec.toNat_ofNat, BitVec.toNat_ofNat, Nat.mod_eq_of_lt h, Nat.mod_eq_of_lt (by omega), Nat.shiftRight_eq_div_pow]
  omega
theorem crcBits_shl : ∀ (n m : Nat), m * 2 ^ n < 2 ^ 32 → crcBits n (BitVec.ofNat 32 (m * 2 ^ n)) = BitVec.ofNat 32 m
  | 0, m, _ => by simp [crcBits]
  | n + 1, m, h => by
    have e : m * 2 ^ (n + 1) = (m * 2 ^ n) * 2 := by rw [Nat.pow_succ, Nat.mul_assoc]
    rw [e] at h ⊢
    rw [crcBits, crcBit_even _ h]
    exact crcBits_shl n m (by omega)
theorem crcBit_zero {z : BitVec 32} (h : crcBit z = 0#32) : z = 0#32 := by
  unfold crcBit at h
  have hz : (z &&& 1#32).toNat = z.toNat % 2 := by
    rw [BitVec.toNat_and]
    show z.toNat &&& 1 = _
    exact Nat.and_one_is_mod _
  have hs : (z >>> 1).toNat = z.toNat / 2 := by
    rw [BitVec.toNat_ushiftRight, Nat.shiftRight_eq_div_pow]
  have hlt := z.isLt
  rcases Nat.mod_two_eq_zero_or_one z.toNat with h0 | h1
  · have e : z &&& 1#32 = 0#32 := BitVec.eq_of_toNat_eq (by rw [hz, h0]; rfl)
    rw [e, BitVec.mul_zero, BitVec.xor_zero] at h
    have := congrArg BitVec.toNat h
    rw [hs] at this
    apply BitVec.eq_of_toNat_eq
    have z0 : (0#32).toNat = 0 := rfl
    rw [z0] at this ⊢
    omega
  · have e : z &&& 1#32 = 1#32 := BitVec.eq_of_toNat_eq (by rw [hz, h1]; rfl)
    rw [e, BitVec.mul_one] at h
    have h' : z >>> 1 = crcPoly := by
      have := congrArg (· ^^^ crcPoly) h
      simpa [BitVec.xor_assoc] using this
    have := congrArg BitVec.toNat h'
    rw [hs] at this
    have p0 : crcPoly.toNat = 0xEDB88320 := rfl
    rw [p0] at this
    omega
theorem crcBits_zero : ∀ (n : Nat) {z : BitVec 32}, crcBits n z = 0#32 → z = 0#32
  | 0, z, h => h
  | n + 1, z, h => crcBit_zero (crcBits_zero n h)
theorem xor_zero_eq {x y : BitVec 32} (h : x ^^^ y = 0#32) : x = y := by
  have := congrArg (· ^^^ y) h
  simpa [BitVec.xor_assoc] using this
theorem crcBits_inj (n : Nat) {x y : BitVec 32} (h : crcBits n x = crcBits n y) : x = y := by
  refine xor_zero_eq (crcBits_zero n ?_)
  rw [crcBits_xor, h, BitVec.xor_self]
theorem crcByte_inj {x y c : BitVec 32} (h : crcByte x c = crcByte y c) : x = y := by
  have := crcBits_inj 8 h
  have h2 := congrArg (· ^^^ c) this
  simpa [BitVec.xor_assoc] using h2
theorem crcFold_inj : ∀ (s : List (BitVec 32)) {x y : BitVec 32}, crcFold x s = crcFold y s → x = y
  | [], x, y, h => h
  | c :: s, x, y, h => crcByte_inj (crcFold_inj s (x := crcByte x c) (y := crcByte y c) h)
theorem crcFold_app (a b : List (BitVec 32)) (x : BitVec 32) : crcFold x (a ++ b) = crcFold (crcFold x a) b := List.foldl_append
theorem crcFold_xor2 : ∀ (a b : List (BitVec 32)) (x y : BitVec 32), a.length = b.length → crcFold (x ^^^ y) (List.zipWith (· ^^^ ·) a b) = crcFold x a ^^^ crcFold y b
  | [], [], _, _, _ => rfl
  | a :: l, b :: m, x, y, h => by
    show crcFold (crcByte (x ^^^ y) (a ^^^ b)) _ = crcFold (crcByte x a) l ^^^ crcFold (crcByte y b) m
    rw [crcByte_xor]
    exact crcFold_xor2 l m _ _ (by simpa using h)
/-- What 8 bits bring below 2 ^ 24 was that, 8 places on. -/
theorem crc_back {u : BitVec 32} (h : (crcBits 8 u).toNat < 2 ^ 24) : u.toNat = (crcBits 8 u).toNat * 256 := by
  have h1 := crcBits_shl 8 (crcBits 8 u).toNat (by omega)
  rw [BitVec.ofNat_toNat, BitVec.setWidth_eq] at h1
  have h2 := crcBits_inj 8 h1
  have h3 := congrArg BitVec.toNat h2
  rw [BitVec.toNat_ofNat, Nat.mod_eq_of_lt (by omega)] at h3
  omega
theorem xor_lt {x y : BitVec 32} (n : Nat) (hx : x.toNat < 2 ^ n) (hy : y.toNat < 2 ^ n) : (x ^^^ y).toNat < 2 ^ n := by
  rw [BitVec.toNat_xor]
  exact Nat.xor_lt_two_pow hx hy
/-- A state from which so many bytes lead to none is small. -/
theorem crc_small : ∀ (ds : List (BitVec 32)) (z : BitVec 32), ds.length ≤ 4 → (∀ d ∈ ds, d.toNat < 256) → crcFold z ds = 0#32 → z.toNat < 2 ^ (8 * ds.length)
  | [], z, _, _, h => by
    have h' : z = 0#32 := h
    subst h'
    decide
  | d :: t, z, hl, hd, h => by
    have hl' : t.length ≤ 3 := by simpa using hl
    have ih := crc_small t (crcByte z d) (by omega) (fun x hx => hd x (by simp [hx])) h
    have hp : 2 ^ (8 * t.length) ≤ 2 ^ 24 := Nat.pow_le_pow_right (by omega) (by omega)
    have hb := crc_back (u := z ^^^ d) (by unfold crcByte at ih; omega)
    have hu : (z ^^^ d).toNat < 2 ^ (8 * (d :: t).length) := by
      have e : 2 ^ (8 * (d :: t).length) = 2 ^ (8 * t.length) * 256 := by
        rw [List.length_cons, Nat.mul_add, Nat.pow_add]
      rw [e]
      unfold crcByte at ih
      omega
    have hd8 : d.toNat < 2 ^ (8 * (d :: t).length) := by
      have h1 := hd d (by simp)
      have h2 : 2 ^ 8 ≤ 2 ^ (8 * (d :: t).length) := Nat.pow_le_pow_right (by omega) (by simp; omega)
      omega
    have := xor_lt _ hu hd8
    rwa [BitVec.xor_assoc, BitVec.xor_self, BitVec.xor_zero] at this
theorem crc_none : ∀ (ds : List (BitVec 32)), ds.length ≤ 4 → (∀ d ∈ ds, d.toNat < 256) → crcFold 0#32 ds = 0#32 → ∀ d ∈ ds, d = 0#32
  | [], _, _, _ => by simp
  | d :: t, hl, hd, h => by
    have hl' : t.length ≤ 3 := by simpa using hl
    have hs := crc_small t (crcByte 0#32 d) (by omega) (fun x hx => hd x (by simp [hx])) h
    have hp : 2 ^ (8 * t.length) ≤ 2 ^ 24 := Nat.pow_le_pow_right (by omega) (by omega)
    have hb := crc_back (u := 0#32 ^^^ d) (by unfold crcByte at hs; omega)
    rw [BitVec.zero_xor] at hb
    have h1 := hd d (by simp)
    have h0 : d = 0#32 := BitVec.eq_of_toNat_eq (by
      have z0 : (0#32).toNat = 0 := rfl
      rw [z0]
      omega)
    subst h0
    have e0 : crcByte 0#32 0#32 = 0#32 := by
      have := crcByte_xor 0#32 0#32 0#32 0#32
      rw [BitVec.xor_self] at this
      rw [this, BitVec.xor_self]
    have h' : crcFold (crcByte 0#32 0#32) t = 0#32 := h
    rw [e0] at h'
    intro x hx
    rcases List.mem_cons.1 hx with rfl | hx
    · rfl
    · exact crc_none t (by omega) (fun x hx => hd x (by simp [hx])) h' x hx
theorem zip_zero : ∀ (a b : List (BitVec 32)), a.length = b.length → (∀ d ∈ List.zipWith (· ^^^ ·) a b, d = 0#32) → a = b
  | [], [], _, _ => rfl
  | x :: a, y :: b, h, hz => by
    have h0 : x ^^^ y = 0#32 := hz _ (by simp)
    rw [xor_zero_eq h0, zip_zero a b (by simpa using h) (fun d hd => hz d (by simp [hd]))]
theorem ofInt_lt {c : Int} (h : 0 ≤ c ∧ c < 256) : (BitVec.ofInt 32 c).toNat < 2 ^ 8 := by
  rw [BitVec.toNat_ofInt]
  omega
theorem ofInt_inj {c d : Int} (hc : 0 ≤ c ∧ c < 256) (hd : 0 ≤ d ∧ d < 256) (h : BitVec.ofInt 32 c = BitVec.ofInt 32 d) : c = d := by
  have := congrArg BitVec.toNat h
  rw [BitVec.toNat_ofInt, BitVec.toNat_ofInt] at this
  omega
theorem map_ofInt_inj : ∀ (a b : List Int), (∀ c ∈ a, 0 ≤ c ∧ c < 256) → (∀ c ∈ b, 0 ≤ c ∧ c < 256) → a.map (BitVec.ofInt 32) = b.map (BitVec.ofInt 32) → a = b
  | [], [], _, _, _ => rfl
  | [], _ :: _, _, _, h => by simp at h
  | _ :: _, [], _, _, h => by simp at h
  | x :: a, y :: b, ha, hb, h => by
    simp only [List.map_cons, List.cons.injEq] at h
    rw [ofInt_inj (ha x (by simp)) (hb y (by simp)) h.1, map_ofInt_inj a b (fun c hc => ha c (by simp [hc])) (fun c hc => hb c (by simp [hc])) h.2]
/-- The law: the sums tell the two apart. -/
theorem crc_burst (p d e s : List Int) (hl : d.length = e.length) (h4 : d.length ≤ 4) (hd : ∀ c ∈ d, 0 ≤ c ∧ c < 256) (he : ∀ c ∈ e, 0 ≤ c ∧ c < 256) (h : crcSum (p ++ d ++ s) = crcSum (p ++ e ++ s)) : d = e := by
  unfold crcSum at h
  have h1 : crcFold (BitVec.allOnes 32) ((p ++ d ++ s).map (BitVec.ofInt 32)) = crcFold (BitVec.allOnes 32) ((p ++ e ++ s).map (BitVec.ofInt 32)) := by
    have := congrArg (fun x => ~~~ x) h
    simpa using this
  simp only [List.map_append, crcFold_app] at h1
  have h2 := crcFold_inj _ h1
  generalize crcFold (BitVec.allOnes 32) (p.map (BitVec.ofInt 32)) = x at h2
  have hlen : (d.map (BitVec.ofInt 32)).length = (e.map (BitVec.ofInt 32)).length := by simp [hl]
  have h3 := crcFold_xor2 (d.map (BitVec.ofInt 32)) (e.map (BitVec.ofInt 32)) x x hlen
  rw [h2, BitVec.xor_self, BitVec.xor_self] at h3
  refine map_ofInt_inj d e hd he (zip_zero _ _ hlen (crc_none _ (by simp; omega) (fun z hz => ?_) h3))
  obtain ⟨i, hi, rfl⟩ := List.mem_iff_getElem.1 hz
  rw [List.getElem_zipWith]
  rw [List.length_zipWith, List.length_map, List.length_map] at hi
  refine xor_lt 8 ?_ ?_
  · rw [List.getElem_map]
    exact ofInt_lt (hd _ (List.getElem_mem _))
  · rw [List.getElem_map]
    exact ofInt_lt (he _ (List.getElem_mem _))
end Go.Proofs.YtfnahihdkbgleaaGreatDoor

/- Plain laws of StoreGuards: a file that is cut, or of which up to four bytes, one behind the other, are others, is refused. -/
namespace Go.Proofs.YtfnahihdkbgleaaGreatDoor.Z
set_option linter.unusedVariables false
open Go.RowKit Go.Proofs.YtfnahihdkbgleaaGreatDoorW.PrintWords Go.Proofs.YtfnahihdkbgleaaGreatDoorW.PrintMore
/-- What a hexadecimal digit counts. -/
def dv (c : UInt8) : Nat := if c.toNat < 58 then c.toNat - 48 else c.toNat - 87
def hexv : Nat → List UInt8 → Nat
  | acc, [] => acc
  | acc, c :: r => hexv (acc * 16 + dv c) r
theorem dv_dig (d : Nat) (h : d < 16) : dv (digC d) = d := by
  have : ∀ d : Fin 16, dv (digC d.val) = d.val := by decide
  exact this ⟨d, h⟩
theorem hexv_low : ∀ (k u acc : Nat), hexv acc (lowDigs 16 k u) = acc * 16 ^ k + u % 16 ^ k
  | 0, u, acc => by simp [lowDigs, hexv, Nat.mod_one]
  | k + 1, u, acc => by
    unfold lowDigs hexv
    rw [dv_dig _ (Nat.mod_lt _ (by omega)), hexv_low k u, Nat.mod_pow_succ, Nat.add_mul, Nat.pow_succ, Nat.mul_comm (u / 16 ^ k % 16), Nat.mul_assoc, Nat.mul_comm 16 (16 ^ k)]
    omega
theorem hexv_app : ∀ (a b : List UInt8) (acc : Nat), hexv acc (a ++ b) = hexv (hexv acc a) b
  | [], _, _ => rfl
  | c :: a, b, acc => hexv_app a b _
theorem hexv_zeros : ∀ (n : Nat), hexv 0 (List.replicate n 48) = 0
  | 0 => rfl
  | n + 1 => by
    rw [List.replicate_succ]
    exact hexv_zeros n
theorem hi_enough : ∀ (f u : Nat), u < 16 ^ (f + 1) → u < 16 ^ (hiDigs 16 f u + 1)
  | 0, u, h => h
  | f + 1, u, h => by
    by_cases h16 : u < 16
    · rw [hiDigs_stop 16 f u h16]
      exact h16
    · rw [hiDigs_step 16 f u h16, Nat.pow_succ]
      have := hi_enough f (u / 16) (by rw [Nat.pow_succ] at h; omega)
      omega
theorem last_crc {p q : List Int} (h : lastL p = lastL q) : crcSum p = crcSum q := by
  have hv : ∀ x : List Int, hexv 0 (List.replicate (8 - (numeral 16 (crcSum x).toNat).length) 48 ++ numeral 16 (crcSum x).toNat) = (crcSum x).toNat := by
    intro x
    rw [hexv_app, hexv_zeros]
    unfold numeral
    rw [hexv_low, Nat.zero_mul, Nat.zero_add]
    refine Nat.mod_eq_of_lt (hi_enough 64 _ ?_)
    have := (crcSum x).isLt
    have h2 : 2 ^ 32 ≤ 16 ^ (64 + 1) := by decide
    omega
  rw [last_sum, last_sum] at h
  have h1 := List.append_cancel_right h
  unfold sumL at h1
  have h2 := List.append_cancel_left h1
  apply BitVec.eq_of_toNat_eq
  rw [← hv p, ← hv q, h2]
theorem seg_eq (x y : List Int) (i k : Nat) (hlen : x.length = y.length) (h : ∀ j, i ≤ j → j < i + k → x.getD j 0 = y.getD j 0) : (x.drop i).take k = (y.drop i).take k := by
  apply List.ext_getElem?
  intro n
  rw [List.getElem?_take, List.getElem?_take, List.getElem?_drop, List.getElem?_drop]
  split
  · rename_i hn
    have hj := h (i + n) (by omega) (by omega)
    by_cases hi : i + n < x.length
    · have hi2 : i + n < y.length := by omega
      simp only [List.getD, List.getElem?_eq_getElem hi, List.getElem?_eq_getElem hi2, Option.getD_some] at hj ⊢
      rw [hj]
    · rw [List.getElem?_eq_none (by omega), List.getElem?_eq_none (by omega)]
  · rfl
theorem drop_eq (x y : List Int) (i : Nat) (hlen : x.length = y.length) (h : ∀ j, i ≤ j → x.getD j 0 = y.getD j 0) : x.drop i = y.drop i := by
  have := seg_eq x y i x.length hlen (fun j h1 _ => h j h1)
  rwa [List.take_of_length_le (by simp), List.take_of_length_le (by simp; omega)] at this
theorem take_eq (x y : List Int) (k : Nat) (hlen : x.length = y.length) (h : ∀ j, j < k → x.getD j 0 = y.getD j 0) : x.take k = y.take k := by
  have := seg_eq x y 0 k hlen (fun j _ h2 => h j (by omega))
  simpa using this
theorem toI_inj {a b : List UInt8} (h : toI a = toI b) : a = b := by
  have := congrArg (fun l => (strOfNums l).data.toList) h
  simpa only [str_toI] using this
theorem three_parts (p : List Int) (i : Nat) : p = p.take i ++ (p.drop i).take 4 ++ p.drop (i + 4) := by
  rw [List.append_assoc, show p.drop (i + 4) = (p.drop i).drop 4 by rw [List.drop_drop], List.take_append_drop, List.take_append_drop]
theorem spoilt_is (p q : List Int) (i : Nat) (hlen : (q ++ toI (lastL q)).length = (p ++ toI (lastL p)).length) (hp : ∀ c ∈ p, 0 ≤ c ∧ c < 256) (hq : ∀ c ∈ q, 0 ≤ c ∧ c < 256)
    (h : ∀ j, j < i ∨ i + 4 ≤ j → (q ++ toI (lastL q)).getD j 0 = (p ++ toI (lastL p)).getD j 0) : q = p := by
  have hE : q.length = p.length := by
    rw [List.length_append, List.length_append, toI_length, toI_length, last_length, last_length] at hlen
    omega
  by_cases hi : p.length ≤ i
  · have := take_eq _ _ p.length hlen (fun j hj => h j (.inl (by omega)))
    rw [List.take_left, ← hE, List.take_left] at this
    exact this
  · have hl : lastL q = lastL p := by
      have h1 := drop_eq _ _ (p.length + 4) hlen (fun j hj => h j (.inr (by omega)))
      rw [List.drop_append, List.drop_append] at h1
      have d1 : q.drop (p.length + 4) = [] := List.drop_eq_nil_of_le (by omega)
      have d2 : p.drop (p.length + 4) = [] := List.drop_eq_nil_of_le (by omega)
      rw [d1, d2, hE, Nat.add_sub_cancel_left, List.nil_append, List.nil_append] at h1
      unfold toI at h1
      rw [← List.map_drop, ← List.map_drop] at h1
      have h2 := toI_inj h1
      have e : ∀ x : List Int, lastL x = [115, 117, 109, 32] ++ (lastL x).drop 4 := by
        intro x
        unfold lastL
        rfl
      rw [e q, e p, h2]
    have hc := last_crc hl
    have hlq : (q ++ toI (lastL p)).length = (p ++ toI (lastL p)).length := by rw [List.length_append, List.length_append, hE]
    rw [hl] at h
    have hg : ∀ (x : List Int) (j : Nat), x.length = p.length → j < p.length → (x ++ toI (lastL p)).getD j 0 = x.getD j 0 := by
      intro x j hx hj
      simp only [List.getD]
      rw [List.getElem?_append_left (by omega)]
    have hin : ∀ j, j < i ∨ i + 4 ≤ j → q.getD j 0 = p.getD j 0 := by
      intro j hj
      by_cases hjl : j < p.length
      · rw [← hg q j hE hjl, ← hg p j rfl hjl]
        exact h j hj
      · simp only [List.getD]
        rw [List.getElem?_eq_none (by omega), List.getElem?_eq_none (by omega)]
    have t1 := take_eq q p i hE (fun j hj => hin j (.inl hj))
    have t2 := drop_eq q p (i + 4) hE (fun j hj => hin j (.inr hj))
    have pq := three_parts q i
    have pp := three_parts p i
    rw [t1, t2] at pq
    have hm := crc_burst (p.take i) ((q.drop i).take 4) ((p.drop i).take 4) (p.drop (i + 4)) (by simp [hE]) (by simp; omega) (fun c hc => hq c (List.mem_of_mem_drop (List.mem_of_mem_take hc))) (fun c hc => hp c (List.mem_of_mem_drop (List.mem_of_mem_take hc))) (by rw [← pq, ← pp]; exact hc)
    rw [pq, hm]
    exact pp.symm
/-- A spoilt file is refused. -/
theorem guards_spoilt (l : List It) (s : List Int) (i : Nat) (hs : ∀ c ∈ s, 0 ≤ c ∧ c < 256) (hb : ∀ c ∈ fileL l, 0 ≤ c ∧ c < 256) (hlen : s.length = (fileL l).length)
    (hag : ∀ j, j < i ∨ i + 4 ≤ j → s.getD j 0 = (fileL l).getD j 0) (hne : s ≠ fileL l) : (getF s).2 ≠ 0 := by
  intro h0
  obtain ⟨h1, _⟩ := getF_back s _ hs (Prod.ext rfl h0 : getF s = ((getF s).1, 0))
  generalize (getF s).1 = a at h1
  subst h1
  have := spoilt_is (bodyL l) (bodyL a) i hlen (fun c hc => hb c (List.mem_append_left _ hc)) (fun c hc => hs c (List.mem_append_left _ hc)) hag
  apply hne
  unfold fileL
  rw [this]
theorem items_prefix : ∀ (a l : List It) (r q : List Int), a.length = l.length → (∀ x ∈ a, fineB x = true) → (∀ x ∈ l, fineB x = true) → itemsL a ++ r = itemsL l ++ q → (itemsL l ++ q).length ≤ 1048576 → r = q ∧ a = l
  | [], [], r, q, _, _, _, h, _ => ⟨h, rfl⟩
  | [], _ :: _, _, _, h, _, _, _, _ => by simp at h
  | _ :: _, [], _, _, h, _, _, _, _ => by simp at h
  | x :: a, y :: l, r, q, hl, ha, hf, h, hlen => by
    rw [items_cons, items_cons, List.append_assoc, List.append_assoc] at h
    rw [items_cons, List.append_assoc] at hlen
    have h1 := itemF_fwd y (itemsL l ++ q) (hf y (by simp)) hlen
    have h2 := itemF_fwd x (itemsL a ++ r) (ha x (by simp)) (by rw [h]; exact hlen)
    rw [h, h1] at h2
    simp only [Prod.mk.injEq, and_true] at h2
    obtain ⟨rfl, h3⟩ := h2
    obtain ⟨h4, h5⟩ := items_prefix a l r q (by simpa using hl) (fun z hz => ha z (by simp [hz])) (fun z hz => hf z (by simp [hz])) h3.symm (by rw [List.length_append] at hlen; omega)
    exact ⟨h4, by rw [h5]⟩
/-- No file begins another one. -/
theorem file_prefix (a l : List It) (t : List Int) (ha : mayB a = true) (hl : mayB l = true) (h : fileL a ++ t = fileL l) : t = [] := by
  obtain ⟨a1, a2, _, a4⟩ := may_parts ha
  obtain ⟨l1, l2, _, l4⟩ := may_parts hl
  have hw : ∀ (m : List It) (r : List Int), (bodyL m ++ r).length ≤ 1048576 → store_words.f (bodyL m ++ r) ((2 : Nat) : Int) = some ([inq, strB (Lib.itoa (m.length : Int))], itemsL m ++ r, 0) := by
    intro m r hr
    unfold bodyL at hr ⊢
    rw [headL_of, List.append_assoc] at hr ⊢
    refine store_words_fwd _ _ 2 rfl (by simp) (fun s hs => ?_) hr
    simp only [List.mem_cons, List.not_mem_nil, or_false] at hs
    rcases hs with rfl | rfl
    · exact inq_word
    · exact itoa_word _
  have h' : bodyL a ++ (toI (lastL (bodyL a)) ++ t) = bodyL l ++ toI (lastL (bodyL l)) := by
    rw [← List.append_assoc]
    exact h
  have w1 := hw l (toI (lastL (bodyL l))) l4
  have w2 := hw a (toI (lastL (bodyL a)) ++ t) (by rw [h']; exact l4)
  rw [h', w1] at w2
  simp only [Option.some.injEq, Prod.mk.injEq, List.cons.injEq, and_true, true_and] at w2
  obtain ⟨e1, e2⟩ := w2
  have e3 : l.length = a.length := itoa_inj (by
    have := congrArg (fun s : ByteArray => s.data.toList) e1
    simpa only [strB_list] using this)
  obtain ⟨e4, e5⟩ := items_prefix a l _ _ e3.symm (each_fine a1) (each_fine l1) e2.symm (by
    have : (itemsL l ++ toI (lastL (bodyL l))).length ≤ (fileL l).length := by
      unfold fileL bodyL
      simp only [List.length_append]
      omega
    omega)
  subst e5
  have := congrArg List.length e4
  rw [List.length_append] at this
  exact List.length_eq_zero_iff.1 (by omega)
/-- A file that is cut is refused. -/
theorem guards_cut (l : List It) (c : Nat) (hb : ∀ c ∈ fileL l, 0 ≤ c ∧ c < 256) (hl : mayB l = true) (hc : c < (fileL l).length) : (getF ((fileL l).take c)).2 ≠ 0 := by
  intro h0
  obtain ⟨h1, h2⟩ := getF_back _ _ (fun x hx => hb x (List.mem_of_mem_take hx)) (Prod.ext rfl h0 : getF ((fileL l).take c) = ((getF ((fileL l).take c)).1, 0))
  have := file_prefix _ l ((fileL l).drop c) h2 hl (by rw [h1, List.take_append_drop])
  have := congrArg List.length this
  rw [List.length_drop, List.length_nil] at this
  omega
end Go.Proofs.YtfnahihdkbgleaaGreatDoor.Z

namespace Go.Proofs.YtfnahihdkbgleaaGreatDoor.Z
set_option linter.unusedVariables false
open Go.RowKit Go.Proofs.YtfnahihdkbgleaaGreatDoorW.PrintWords Go.Proofs.YtfnahihdkbgleaaGreatDoorW.PrintWords.Kd
theorem file_least (l : List It) : 14 ≤ (fileL l).length := by
  unfold fileL
  rw [List.length_append, toI_length, last_length]
  unfold bodyL headL
  simp only [List.length_append, toI_length, List.length_cons, List.length_nil]
  omega
theorem idx_mod (z : Int) (n : Nat) (h : 0 < n) (hn : n ≤ 1048576) : ∃ k : Nat, k < n ∧ (wrap64 (z.tmod (n : Int) + (n : Int))).tmod (n : Int) = (k : Int) := by
  have h1 : (z.tmod (n : Int)).natAbs < n := by
    rw [Int.natAbs_tmod, Int.natAbs_natCast]
    exact Nat.mod_lt _ h
  have h2 : wrap64 (z.tmod (n : Int) + (n : Int)) = z.tmod (n : Int) + (n : Int) := by
    unfold wrap64
    omega
  rw [h2]
  have h3 : 0 ≤ z.tmod (n : Int) + (n : Int) := by omega
  rw [Int.tmod_eq_emod_of_nonneg h3]
  have h4 := Int.emod_nonneg (z.tmod (n : Int) + (n : Int)) (b := (n : Int)) (by omega)
  have h5 := Int.emod_lt_of_pos (z.tmod (n : Int) + (n : Int)) (b := (n : Int)) (by omega)
  exact ⟨((z.tmod (n : Int) + (n : Int)) % (n : Int)).toNat, by omega, by omega⟩
theorem u8_xor (X Y : BitVec 8) : Go.bits .xor .u8 (X.toNat : Int) (Y.toNat : Int) = ((X ^^^ Y).toNat : Int) := by
  have h : ∀ Z : BitVec 8, IntKind.u8.wrap (Z.toNat : Int) = (Z.toNat : Int) := fun Z => by
    have := Z.isLt
    rw [IntKind.wrap_u8]; omega
  have hx : BitVec.ofInt IntKind.u8.bits (X.toNat : Int) = X := by
    show BitVec.ofInt 8 (X.toNat : Int) = X
    simp
  have hy : BitVec.ofInt IntKind.u8.bits (Y.toNat : Int) = Y := by
    show BitVec.ofInt 8 (Y.toNat : Int) = Y
    simp
  unfold Go.bits
  simp only [hx, hy]
  exact h _
theorem byte_vec {a : Int} (h : 0 ≤ a ∧ a < 256) : ∃ A : BitVec 8, a = (A.toNat : Int) := ⟨BitVec.ofInt 8 a, by
  rw [BitVec.toNat_ofInt]
  show _ = ((a % 256).toNat : Int)
  omega⟩
theorem xor_byte {a b : Int} (ha : 0 ≤ a ∧ a < 256) (hb : 0 ≤ b ∧ b < 256) : 0 ≤ Go.bits .xor .u8 a b ∧ Go.bits .xor .u8 a b < 256 := by
  obtain ⟨A, rfl⟩ := byte_vec ha
  obtain ⟨B, rfl⟩ := byte_vec hb
  rw [u8_xor]
  have := (A ^^^ B).isLt
  omega
theorem byte_at {b : List Int} (h : ∀ c ∈ b, 0 ≤ c ∧ c < 256) (i : Nat) : 0 ≤ b.getD i 0 ∧ b.getD i 0 < 256 := by
  rw [List.getD_eq_getElem?_getD]
  by_cases hi : i < b.length
  · rw [List.getElem?_eq_getElem hi]
    exact h _ (List.getElem_mem hi)
  · rw [List.getElem?_eq_none (by omega)]
    decide
theorem add_small (i k p : Nat) (hp : p = i + k) (hi : i < 1048576) (hk : k ≤ 4) : wrap64 ((i : Int) + (k : Int)) = (p : Int) := by
  unfold wrap64
  omega
theorem sum_lt (i k p n : Nat) (hp : p = i + k) (h : p < n) : (i : Int) + (k : Int) < (n : Int) := by omega
theorem sum_nat (i k p : Nat) (hp : p = i + k) : ((i : Int) + (k : Int)).toNat = p := by omega
theorem sum_ge (i k : Nat) : 0 ≤ (i : Int) + (k : Int) := by omega
theorem add_small2 (i k p : Nat) (hp : p = i + k) (hi : i < 1048576) (hk : k ≤ 4) : IntKind.i64.wrap ((i : Int) + (k : Int)) = (p : Int) := by
  rw [IntKind.wrap_i64]
  omega
theorem out_cond (k p n : Nat) (h : ¬ (k < 4 ∧ p < n)) : ((k : Int) < 4 ∧ ¬ ((p : Int) < (n : Int))) ∨ ¬ (k : Int) < 4 := by omega
theorem near (i k p : Nat) (hp : p = i + k) (hk : k < 4) : i ≤ p ∧ p < i + 4 := by omega
/-- The spoilt row while it is spoilt. -/
structure Spoil (w wr : World) (g : Nat) (b s : List Int) (i0 : Nat) : Prop where
  blk : ∃ C q, wr.heap[g]? = some (.cells C 5 (q, q + 1)) ∧ b.length ≤ q ∧ b.length ≤ C.size ∧ ∀ j, j < b.length → C[j]? = some (.int .u8 (s.getD j 0))
  len : s.length = b.length
  byt : ∀ c ∈ s, 0 ≤ c ∧ c < 256
  agree : ∀ j, j < i0 ∨ i0 + 4 ≤ j → s.getD j 0 = b.getD j 0
  below : Below w.heap.size w wr
theorem Spoil.cell {w wr : World} {g : Nat} {b s : List Int} {i0 : Nat} (h : Spoil w wr g b s i0) (j : Nat) (hj : j < b.length) : wr.cell? ⟨g, j, none⟩ = some (.int .u8 (s.getD j 0)) ∧ wr.frozen? ⟨g, j, none⟩ = false := by
  obtain ⟨C, q, hb, hq, _, hc⟩ := h.blk
  refine ⟨(cell_of_row wr g j C _ _ hb).trans (hc j hj), ?_⟩
  unfold World.frozen?
  simp only [hb]
  simp
  omega
theorem Spoil.reads {w wr : World} {g : Nat} {b s : List Int} {i0 : Nat} (h : Spoil w wr g b s i0) (hm : b.length ≤ 9223372036854775807) : Kd.C (Kd.int .u8) wr (some ⟨g, 0, none⟩) s.length s := by
  refine ⟨rfl, by rw [h.len]; exact hm, fun _ => ⟨_, rfl, fun j p hj => ⟨[.int .u8 p], rfl, rfl, fun i u hu => ?_⟩⟩⟩
  have hi : i = 0 := by
    have := (List.getElem?_eq_some_iff.1 hu).1
    simpa using this
  subst hi
  simp only [List.getElem?_cons_zero, Option.some.injEq] at hu
  subst hu
  have hjl : j < s.length := (List.getElem?_eq_some_iff.1 hj).1
  rw [show (Kd.int .u8).sz = 1 from rfl, Nat.mul_one, Nat.add_zero, Lib.add_plain, Nat.zero_add]
  rw [(h.cell j (by rw [← h.len]; exact hjl)).1]
  simp [List.getD, hj]
theorem Spoil.set {w wr : World} {g : Nat} {b s : List Int} {i0 : Nat} (h : Spoil w wr g b s i0) (hg : w.heap.size ≤ g) (j : Nat) (hj : i0 ≤ j ∧ j < i0 + 4) (hjl : j < b.length) (z : Int) (hz : 0 ≤ z ∧ z < 256) : Spoil w (wr.setCell ⟨g, j, none⟩ (.int .u8 z)) g b (s.set j z) i0 := by
  obtain ⟨C, q, hb, hq, hs, hc⟩ := h.blk
  refine ⟨⟨C.setIfInBounds j (.int .u8 z), q, by simp [World.setCell, Array.getElem?_modify, hb], hq, by simpa using hs, fun k hk => ?_⟩, by rw [List.length_set]; exact h.len, fun c hcm => ?_, fun k hk => ?_, below_set h.below hg⟩
  · by_cases hjk : j = k
    · subst hjk
      have h2 : j < s.length := by rw [h.len]; exact hjl
      have h3 : j < C.size := by omega
      simp [List.getD, h2, h3]
    · rw [Array.getElem?_setIfInBounds_ne hjk, hc k hk]
      simp [List.getD, hjk]
  · rcases List.mem_or_eq_of_mem_set hcm with h1 | rfl
    · exact h.byt c h1
    · exact hz
  · have hjk : j ≠ k := by omega
    rw [← h.agree k hk]
    simp [List.getD, hjk]
theorem Spoil.drew {w wr : World} {g : Nat} {b s : List Int} {i0 : Nat} (h : Spoil w wr g b s i0) : Spoil w wr.drew g b s i0 := ⟨h.blk, h.len, h.byt, h.agree, below_drew1 h.below⟩
set_option maxHeartbeats 6400000 in
set_option maxRecDepth 100000 in
theorem guards_calls (l : List S37) (hl : ∀ y ∈ l, ItIn y) (hn : l.length ≤ 9223372036854775807) (at0 cut0 o0 o1 o2 o3 : Int) (hat : -9223372036854775808 ≤ at0 ∧ at0 ≤ 9223372036854775807) (hcut : -9223372036854775808 ≤ cut0 ∧ cut0 ≤ 9223372036854775807)
    (h0 : 0 ≤ o0 ∧ o0 < 256) (h1 : 0 ≤ o1 ∧ o1 < 256) (h2 : 0 ≤ o2 ∧ o2 < 256) (h3 : 0 ≤ o3 ∧ o3 < 256) (A0 : Option Addr) (c0 : Nat) (w : World) (hG : Gl w) (hr : Kd.C k37 w A0 l.length l) (hc : l.length ≤ c0) :
    Calls Tryz.prog 4 #[.slice A0 l.length c0, .int .i64 at0, .agg #[.int .u8 o0, .int .u8 o1, .int .u8 o2, .int .u8 o3], .int .i64 cut0] w fun e w' => e = .returned (.bool true) ∧ Below w.heap.size w w' := by
  obtain ⟨gr, hgr, hq⟩ := great_ev l hn
  obtain ⟨kg, hkg⟩ := Ev.rounds hgr
  have HB := Lib.hid ((Below.refl w.heap.size w).alloc (Nat.le_refl _) (.cells #[.int .u8 o0, .int .u8 o1, .int .u8 o2, .int .u8 o3] 34))
  have HK := Lib.hid (blk_new w (.cells #[.int .u8 o0, .int .u8 o1, .int .u8 o2, .int .u8 o3] 34))
  have HGR := Lib.hid (inquestlaw37_great.calls kg A0 c0 l gr (w.alloc (.cells #[.int .u8 o0, .int .u8 o1, .int .u8 o2, .int .u8 o3] 34)) (Kd.C_alloc hr _) hc hkg)
  have HG := Lib.hid hG
  have HR := Lib.hid hr
  have HLI := Lib.hid (fun (W : World) (hb : Below w.heap.size w W) => inquestlaw37_lives.calls true W (Gl.below hb HG.out) rfl)
  have HI := Lib.hid hl
  clear hgr hkg hG hr hl
  cases gr
  · have hle := hq rfl
    clear hq
    cases hm : mayB l
    · have HP := Lib.hid (fun (W : World) (hb : Below w.heap.size w W) => store_Put.calls A0 c0 l _ _ W (Gl.below hb HG.out) (Kd.C_below HR.out hb) hc (put_no HI.out (by omega) hm))
      clear hm
      go_enter Tryz.func4, Tryz.ntmps4
      go_wp2_with fail
      refine HGR.out.mono ?_
      rintro e w1 ⟨rfl, ⟨m, rfl⟩⟩
      have HB1 := Lib.hid (pw_below_drewN HB.out m)
      clear HGR HB HK
      go_wp2_with fail
      refine (HP.out _ HB1.out).mono ?_
      rintro e w2 ⟨v, rfl, hv, hb2⟩
      obtain ⟨A2, c2, rfl⟩ := Kd.R_slice hv
      have HB2 := Lib.hid (below_step HB1.out hb2)
      clear hv hb2
      go_wp2_with fail
      refine (HLI.out _ HB2.out).mono ?_
      rintro e w3 ⟨rfl, hb3⟩
      have HB3 := Lib.hid (below_step HB2.out hb3)
      clear hb3
      go_wp2_with fail
      go_ret
      exact ⟨rfl, HB3.out⟩
    · have HP := Lib.hid (fun (W : World) (hb : Below w.heap.size w W) => store_Put.calls A0 c0 l _ _ W (Gl.below hb HG.out) (Kd.C_below HR.out hb) hc (put_yes HI.out hm))
      have hlong := file_least l
      have hmost : (fileL l).length ≤ 1048576 := (may_parts hm).2.2.2
      have hby := file_bytes l (fun x hx => (HI.out x hx).1.2)
      have HCut := Lib.hid (fun c (h : c < (fileL l).length) => guards_cut l c hby hm h)
      have HSp := Lib.hid (fun s i a b c d => guards_spoilt l s i a hby b c d)
      have HBy := Lib.hid hby
      clear hm hby
      generalize fileL l = b at *
      go_enter Tryz.func4, Tryz.ntmps4
      go_wp2_with fail
      refine HGR.out.mono ?_
      rintro e w1 ⟨rfl, ⟨m, rfl⟩⟩
      have HB1 := Lib.hid (pw_below_drewN HB.out m)
      have HK1 := Lib.hid (blk_drewN HK.out m)
      clear HGR HB HK
      go_wp2_with fail
      refine (HP.out _ HB1.out).mono ?_
      rintro e w2 ⟨v, rfl, hv, hb2⟩
      obtain ⟨A2, c2, rfl, hc2, hC2⟩ := Kd.R_reads hv
      have HB2 := Lib.hid (below_step HB1.out hb2)
      have HK2 := Lib.hid (blk_below HK1.out hb2)
      have HC2 := Lib.hid hC2
      clear hv hb2 hC2 HP HK1 HB1
      have hl14 : ¬ (b.length : Int) < 14 := by omega
      have hlne : ¬ (b.length : Int) = 0 := by omega
      obtain ⟨cn, hcn, hcm⟩ := idx_mod cut0 b.length (by omega) hmost
      obtain ⟨i0, hi0, him⟩ := idx_mod at0 b.length (by omega) hmost
      obtain ⟨ii, hii, _, hsz, _⟩ := info_parts info_u8
      obtain ⟨ht, hta⟩ := print_take_of (P := Tryz.prog) (Value.int .u8) (0 : Int) 23 5 .i64 Tryz.underlying23 hii hsz A2 c2 b (cn : Int) (by omega) (by omega) hc2
      have HGet := Lib.hid (store_Get.calls A2 c2 (b.take cn) (getF (b.take cn)).1 (getF (b.take cn)).2 w2 (Gl.below HB2.out HG.out) (Kd.C_take HC2.out (by omega)) (by rw [List.length_take]; omega) (get_is (fun c hc => HBy.out c (List.mem_of_mem_take hc))))
      have hne := HCut.out cn hcn
      rw [Int.toNat_natCast] at ht
      clear hta hii hsz hcut hat HCut
      generalize b.take cn = b1 at *
      generalize (getF b1).1 = r1a at *
      generalize (getF b1).2 = r1b at *
      have hne' : (r1b == 0) = false := beq_eq_false_iff_ne.2 hne
      clear hne
      go_wp2_with fail
      refine HGet.out.mono ?_
      rintro e w3 ⟨v3, rfl, hv3, hb3⟩
      obtain ⟨A3, c3, rfl⟩ := Kd.S_slice hv3
      have HB3 := Lib.hid (below_step HB2.out hb3)
      have HK3 := Lib.hid (blk_below HK2.out hb3)
      have hC3 := Kd.C_below HC2.out hb3
      have hcv := Kd.C_string (P := Tryz.prog) (A := A2) (c := c2) Tryz.underlying23 Tryz.underlying5 Tryz.underlying9 hC3
      have hcb := fun (w : World) => Lib.run_convert_string_bytes (P := Tryz.prog) w 9 23 5 (strOfNums b) Tryz.underlying9 Tryz.underlying23 Tryz.underlying5
      have HC3 := Lib.hid hC3
      clear hv3 hb3 hC3 HK2 HB2 HC2 HGet ht
      go_wp2_with fail
      have hss : (strOfNums b).size = b.length := strOfNums_size b
      have hcap : b.length ≤ grownCap w3 b.length 0 5 := grownCap_ge _ _ _ _
      have HS0 : Hid (Spoil w3 (Lib.bytesWorld w3 5 (strOfNums b)) w3.heap.size b b i0) := Lib.hid {
        blk := ⟨_, _, Lib.bytesWorld_at_new w3 5 (strOfNums b), by unfold Lib.bytesCells; rw [Array.size_append, Array.size_map]; have : (strOfNums b).data.size = b.length := hss; omega, by unfold Lib.bytesCells; rw [Array.size_append, Array.size_map]; have : (strOfNums b).data.size = b.length := hss; omega, fun j hj => by
          have h1 := Lib.bytesWorld_cell w3 5 (strOfNums b) j (by omega)
          rw [cell_of_row _ _ j _ _ _ (Lib.bytesWorld_at_new w3 5 (strOfNums b))] at h1
          rw [h1]
          have h2 : toI (strOfNums b).data.toList = b := toI_str b HBy.out
          have h3 : (((strOfNums b).data.toList.getD j 0).toNat : Int) = b.getD j 0 := by
            conv => rhs; rw [← h2]
            unfold toI
            simp only [List.getD, List.getElem?_map]
            cases ((strOfNums b).data.toList)[j]? <;> rfl
          rw [h3]⟩
        len := rfl
        byt := HBy.out
        agree := fun _ _ => rfl
        below := bytes_below (Below.refl _ _) (Nat.le_refl _) _ _ }
      rw [hss]
      generalize grownCap w3 b.length 0 5 = cap at *
      generalize Lib.bytesWorld w3 5 (strOfNums b) = w4 at *
      have HSS := Lib.hid hss
      have HHL := Lib.hid hlong
      obtain ⟨g, hgE⟩ : ∃ g, g = w3.heap.size := ⟨_, rfl⟩
      rw [← hgE] at HS0 ⊢
      have hgle : w3.heap.size ≤ g := by omega
      have HOS : Hid (∀ k, k < 4 → ∃ z, (0 ≤ z ∧ z < 256) ∧ w3.cell? ⟨w.heap.size, k, none⟩ = some (.int .u8 z)) := Lib.hid (fun k hk => by
        have hk' : k = 0 ∨ k = 1 ∨ k = 2 ∨ k = 3 := by omega
        rcases hk' with rfl | rfl | rfl | rfl
        · exact ⟨o0, h0, (blk_cell HK3.out 0).trans rfl⟩
        · exact ⟨o1, h1, (blk_cell HK3.out 1).trans rfl⟩
        · exact ⟨o2, h2, (blk_cell HK3.out 2).trans rfl⟩
        · exact ⟨o3, h3, (blk_cell HK3.out 3).trans rfl⟩)
      clear hcb hcv hss hlong hgE h0 h1 h2 h3 HR HI HK3 hcn hcm hl14
      go_loopw [14] (fun i wr => ∃ (k : Nat) (s : List Int), k ≤ 4 ∧ i = .int .i64 (k : Int) ∧ Hid (Spoil w3 wr g b s i0)) (fun i _ => 4 - (intOf i).toNat)
      case atStart => exact ⟨0, b, by omega, rfl, HS0⟩
      case round =>
        obtain ⟨k, s, hk, rfl, HS⟩ := hrel
        clear HS0
        obtain ⟨p, hp⟩ : ∃ p, p = i0 + k := ⟨_, rfl⟩
        have hw1 : wrap64 ((i0 : Int) + (k : Int)) = (p : Int) := add_small i0 k p hp (Nat.lt_of_lt_of_le hi0 hmost) hk
        by_cases hgo : k < 4 ∧ p < b.length
        · obtain ⟨hk4, hin⟩ := hgo
          have hk4' : (k : Int) < 4 := Int.ofNat_lt.2 hk4
          have hin' : (i0 : Int) + (k : Int) < (b.length : Int) := sum_lt i0 k p _ hp hin
          have hw2 : ((i0 : Int) + (k : Int)).toNat = p := sum_nat i0 k p hp
          have hw3 : IntKind.i64.wrap ((i0 : Int) + (k : Int)) = (p : Int) := add_small2 i0 k p hp (Nat.lt_of_lt_of_le hi0 hmost) hk
          have hin2 : (p : Int) < (b.length : Int) := Int.ofNat_lt.2 hin
          obtain ⟨z, hz, hzc⟩ := HOS.out k hk4
          have hz2 : wr.cell? ⟨w.heap.size, k, none⟩ = some (.int .u8 z) := (HS.out.below.cell (World.block_lt_of_cell? w3 _ hzc)).trans hzc
          obtain ⟨hsc, hsf⟩ := HS.out.cell p hin
          have HBx := Lib.hid (byte_at HS.out.byt p)
          have HSN := Lib.hid (fun z h => Spoil.set (w := w3) (wr := wr) (g := g) (b := b) (s := s) (i0 := i0) HS.out hgle p (near i0 k p hp hk4) hin z h)
          have HZ := Lib.hid hz
          have HP := Lib.hid hp
          clear hzc HS hz hp
          generalize s.getD p 0 = x at *
          go_wp2_with fail

          go_region_law (fail)
          go_wp2_with fail
          all_goals
            refine ⟨⟨k + 1, s.set p (bits BinOp.xor IntKind.u8 x z), hk4, by go_num, Lib.hid (Spoil.drew (HSN.out _ (xor_byte HBx.out HZ.out)))⟩, ?_⟩
            simp [intOf]
            omega
        · have HSL : Hid (Spoil w3 wr g b s i0) := HS
          have HB5 := Lib.hid (below_step HB3.out HS.out.below)
          have HC5 := Lib.hid (Kd.C_below HC3.out HS.out.below)
          have hsl : s.length = b.length := HS.out.len
          have HCs := Lib.hid (HS.out.reads (by omega))
          have HBY := Lib.hid (inquestref00_Bytes.calls (some ⟨g, 0, none⟩) cap s A2 c2 b _ wr HCs.out (by omega) HC5.out hc2 rfl)
          rw [hsl] at HBY
          have HGT : Hid (∀ W, Below wr.heap.size wr W → (Calls Tryz.prog 9 #[.slice (some ⟨g, 0, none⟩) b.length cap] W fun e w' => ∃ v0_ : Value, e = .returned (.tuple #[v0_, .int .i64 (getF s).2]) ∧ Kd.S k37 37 w' W.heap.size (fun _ => True) v0_ (getF s).1 ∧ Below W.heap.size W w')) := Lib.hid (fun W hb => by
            have := store_Get.calls (some ⟨g, 0, none⟩) cap s (getF s).1 (getF s).2 W (Gl.below (below_step HB5.out hb) HG.out) (Kd.C_below HCs.out hb) (by omega) (get_is HS.out.byt)
            rwa [hsl] at this)
          have HSP : Hid (s ≠ b → (getF s).2 ≠ 0) := Lib.hid (fun hne => HSp.out s i0 HS.out.byt hsl HS.out.agree hne)
          have HER := Lib.hid (getF_err s)
          have HEQ : Hid (((strOfNums s).toList == (strOfNums b).toList) = false → s ≠ b) := Lib.hid (fun h e => by rw [e, beq_self_eq_true] at h; cases h)
          have hcond : ((k : Int) < 4 ∧ ¬ ((p : Int) < (b.length : Int))) ∨ ¬ (k : Int) < 4 := out_cond k p b.length hgo
          have hw3 : IntKind.i64.wrap ((i0 : Int) + (k : Int)) = (p : Int) := add_small2 i0 k p hp (Nat.lt_of_lt_of_le hi0 hmost) hk
          have hsum : (i0 : Int) + (k : Int) = (p : Int) := by omega
          clear HS hgo hsl HCs HC5 HSp HOS HBy HC3
          generalize (getF s).1 = ra at *
          generalize (getF s).2 = rb at *
          generalize ((strOfNums s).toList == (strOfNums b).toList) = same at *
          rcases hcond with ⟨hk4, hpl⟩ | hk4
          all_goals
            rw [← hsum] at hw3
            (try rw [← hsum] at hpl)
            clear hp hsum
            go_wp2_with fail
            refine HBY.out.mono ?_
            rintro e w5 ⟨rfl, hb5⟩
            obtain ⟨m5, rfl⟩ := hb5
            have hb5 : Below wr.heap.size wr (wr.drewN m5) := pw_below_drewN (Below.refl _ _) m5
            generalize wr.drewN m5 = w5 at *
            have HW5 := Lib.hid hb5
            have HB6 := Lib.hid (below_step HB5.out hb5)
            clear hb5 HBY
            cases same
            · have hne := HSP.out (HEQ.out rfl)
              have hra := HER.out hne
              have hneb : (rb != 0) = true := bne_iff_ne.2 hne
              subst hra
              clear hne HSP HEQ HER
              go_wp2_with fail
              refine (HGT.out _ HW5.out).mono ?_
              rintro e w6 ⟨v6, rfl, hv6, hb6⟩
              obtain ⟨A6, c6, rfl⟩ := Kd.S_slice hv6
              have HB7 := Lib.hid (below_step HB6.out hb6)
              clear hv6 hb6 HGT
              go_wp2_with fail
              refine (HLI.out _ HB7.out).mono ?_
              rintro e w7 ⟨rfl, hb7⟩
              have HB8 := Lib.hid (below_step HB7.out hb7)
              clear hb7
              go_wp2_with fail
              go_ret
              exact ⟨rfl, HB8.out⟩
            · go_wp2_with fail
              refine (HLI.out _ HB6.out).mono ?_
              rintro e w7 ⟨rfl, hb7⟩
              have HB8 := Lib.hid (below_step HB6.out hb7)
              clear hb7
              go_wp2_with fail
              go_ret
              exact ⟨rfl, HB8.out⟩
  · clear hq hn
    go_enter Tryz.func4, Tryz.ntmps4
    go_wp2_with fail
    refine HGR.out.mono ?_
    rintro e w1 ⟨rfl, ⟨m, rfl⟩⟩
    have HB1 := Lib.hid (pw_below_drewN HB.out m)
    clear HGR HB HK
    go_wp2_with fail
    refine (HLI.out _ HB1.out).mono ?_
    rintro e w3 ⟨rfl, hb3⟩
    have HB3 := Lib.hid (below_step HB1.out hb3)
    clear hb3
    go_wp2_with fail
    go_ret
    exact ⟨rfl, HB3.out⟩
end Go.Proofs.YtfnahihdkbgleaaGreatDoor.Z
