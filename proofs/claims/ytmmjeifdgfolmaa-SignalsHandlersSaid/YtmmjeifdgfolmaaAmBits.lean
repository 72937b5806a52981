/- Words and their bits. Conditions: the numbers fit. -/
import Derived.Test.YtmmjeifdgfolmaaAmStep
namespace Go.AM
theorem bits_u64 : IntKind.bits .u64 = 64 := rfl
theorem ofInt_toNat {a : Int} (h1 : 0 ≤ a) (h2 : a < 18446744073709551616) : (BitVec.ofInt 64 a).toNat = a.toNat := by
  rw [BitVec.toNat_ofInt]
  omega
theorem wrap_nat {n : Nat} (h : n < 18446744073709551616) : IntKind.u64.wrap (n : Int) = n := by
  unfold IntKind.wrap IntKind.signed IntKind.bits
  simp only [Bool.false_and, Bool.false_eq_true, if_false]
  omega
theorem and_u64 {a b : Int} (h1 : 0 ≤ a) (h2 : a < 18446744073709551616) (h3 : 0 ≤ b) (h4 : b < 18446744073709551616) : IntKind.u64.wrap ((BitVec.ofInt IntKind.u64.bits a &&& BitVec.ofInt IntKind.u64.bits b).toNat : Int) = ((a.toNat &&& b.toNat : Nat) : Int) := by
  show IntKind.u64.wrap ((BitVec.ofInt 64 a &&& BitVec.ofInt 64 b).toNat : Int) = ((a.toNat &&& b.toNat : Nat) : Int)
  rw [BitVec.toNat_and, ofInt_toNat h1 h2, ofInt_toNat h3 h4]
  refine wrap_nat ?_
  have : a.toNat &&& b.toNat ≤ a.toNat := Nat.and_le_left
  omega
theorem or_u64 {a b : Int} (h1 : 0 ≤ a) (h2 : a < 18446744073709551616) (h3 : 0 ≤ b) (h4 : b < 18446744073709551616) : IntKind.u64.wrap ((BitVec.ofInt IntKind.u64.bits a ||| BitVec.ofInt IntKind.u64.bits b).toNat : Int) = ((a.toNat ||| b.toNat : Nat) : Int) := by
  show IntKind.u64.wrap ((BitVec.ofInt 64 a ||| BitVec.ofInt 64 b).toNat : Int) = ((a.toNat ||| b.toNat : Nat) : Int)
  rw [BitVec.toNat_or, ofInt_toNat h1 h2, ofInt_toNat h3 h4]
  refine wrap_nat ?_
  exact Nat.or_lt_two_pow (n := 64) (by omega) (by omega)
/-- a without b's bits. -/
def without (a b : Nat) : Nat := (BitVec.ofNat 64 a &&& ~~~BitVec.ofNat 64 b).toNat
theorem without_lt (a b : Nat) : without a b < 18446744073709551616 := (BitVec.ofNat 64 a &&& ~~~BitVec.ofNat 64 b).isLt
theorem testBit_without {a b k : Nat} (ha : a < 18446744073709551616) : (without a b).testBit k = (a.testBit k && !(b.testBit k)) := by
  unfold without
  rw [← BitVec.getLsbD, BitVec.getLsbD_and, BitVec.getLsbD_not, BitVec.getLsbD_ofNat, BitVec.getLsbD_ofNat]
  by_cases hk : k < 64
  · simp [hk]
  · have : a.testBit k = false := Nat.testBit_lt_two_pow (Nat.lt_of_lt_of_le ha (Nat.pow_le_pow_right (n := 2) (by omega) (show 64 ≤ k by omega)))
    simp [hk, this]
theorem andNot_u64 {a b : Int} (h1 : 0 ≤ a) (h2 : a < 18446744073709551616) (h3 : 0 ≤ b) (h4 : b < 18446744073709551616) : IntKind.u64.wrap ((BitVec.ofInt IntKind.u64.bits a &&& ~~~BitVec.ofInt IntKind.u64.bits b).toNat : Int) = ((without a.toNat b.toNat : Nat) : Int) := by
  show IntKind.u64.wrap ((BitVec.ofInt 64 a &&& ~~~BitVec.ofInt 64 b).toNat : Int) = ((without a.toNat b.toNat : Nat) : Int)
  have e : ∀ c : Int, 0 ≤ c → c < 18446744073709551616 → BitVec.ofInt 64 c = BitVec.ofNat 64 c.toNat := by
    intro c hc hc'
    apply BitVec.eq_of_toNat_eq
    rw [ofInt_toNat hc hc', BitVec.toNat_ofNat]
    omega
  rw [e a h1 h2, e b h3 h4]
  exact wrap_nat (without_lt _ _)
/-- (under a name of its own: omega takes it as it is) -/
def shrN (p s : Nat) : Nat := p >>> s
theorem shrN_le (p s : Nat) : shrN p s ≤ p := Nat.shiftRight_le _ _
theorem shr_u64 {a s : Int} (h1 : 0 ≤ a) (hs : 0 ≤ s) (hs' : s < 64) : a.fdiv (2 ^ (min s.toNat IntKind.u64.bits)) = ((shrN a.toNat s.toNat : Nat) : Int) := by
  show a.fdiv (2 ^ (min s.toNat 64)) = ((shrN a.toNat s.toNat : Nat) : Int)
  obtain ⟨n, rfl⟩ := Int.eq_ofNat_of_zero_le h1
  obtain ⟨m, rfl⟩ := Int.eq_ofNat_of_zero_le hs
  unfold shrN
  rw [Int.toNat_natCast, Int.toNat_natCast, Nat.min_eq_left (by omega), Nat.shiftRight_eq_div_pow, Int.fdiv_eq_ediv_of_nonneg _ (by exact Int.le_of_lt (Int.pow_pos (by decide)))]
  norm_cast
/-- (likewise) -/
def bitN (s : Nat) : Nat := 2 ^ s
theorem bitN_lt {s : Nat} (h : s < 64) : bitN s < 18446744073709551616 := by
  have : (2 : Nat) ^ s < 2 ^ 64 := Nat.pow_lt_pow_right (by omega) h
  unfold bitN
  omega
theorem shl1_u64 {s : Int} (hs : 0 ≤ s) (hs' : s < 64) : wrapF .u64 (1 * 2 ^ (min s.toNat IntKind.u64.bits)) = ((bitN s.toNat : Nat) : Int) := by
  show wrapF .u64 (1 * 2 ^ (min s.toNat 64)) = ((2 ^ s.toNat : Nat) : Int)
  obtain ⟨m, rfl⟩ := Int.eq_ofNat_of_zero_le hs
  rw [Int.toNat_natCast, Nat.min_eq_left (by omega), Int.one_mul, wrapF_eq]
  have h : (2 : Nat) ^ m < 18446744073709551616 := by
    have : (2 : Nat) ^ m < 2 ^ 64 := Nat.pow_lt_pow_right (by omega) (by omega)
    omega
  have e : (2 : Int) ^ m = ((2 ^ m : Nat) : Int) := by norm_cast
  rw [e]
  exact wrap_nat h
theorem bit_eq (p s : Nat) : decide (((shrN p s &&& 1 : Nat) : Int) = 1) = p.testBit s := by
  unfold shrN
  rw [Nat.testBit, Nat.and_comm 1]
  have h : p >>> s &&& 1 = 0 ∨ p >>> s &&& 1 = 1 := by
    have : p >>> s &&& 1 = (p >>> s) % 2 := Nat.and_one_is_mod _
    omega
  rcases h with h | h <;> rw [h] <;> rfl
theorem shl1_nat {s : Nat} (hs : s < 64) : wrapF .u64 (1 * 2 ^ (min s IntKind.u64.bits)) = ((bitN s : Nat) : Int) := by
  have := shl1_u64 (s := (s : Int)) (by omega) (by omega)
  rwa [Int.toNat_natCast] at this
theorem shr_nat {a : Int} {s : Nat} (h1 : 0 ≤ a) (hs : s < 64) : a.fdiv (2 ^ (min s IntKind.u64.bits)) = ((shrN a.toNat s : Nat) : Int) := by
  have := shr_u64 (s := (s : Int)) h1 (by omega) (by omega)
  rwa [Int.toNat_natCast] at this
theorem testBit_two (s k : Nat) : (2 ^ s).testBit k = decide (s = k) := Nat.testBit_two_pow
theorem testBit_bitN (s k : Nat) : (bitN s).testBit k = decide (s = k) := testBit_two s k
theorem testBit_with (p s k : Nat) : (p ||| bitN s).testBit k = (p.testBit k || decide (s = k)) := by rw [Nat.testBit_or, testBit_bitN]
theorem with_lt {p s : Nat} (hp : p < 18446744073709551616) (hs : s < 64) : p ||| bitN s < 18446744073709551616 :=
  Nat.or_lt_two_pow (n := 64) hp (bitN_lt hs)
theorem testBit_drop {p : Nat} (hp : p < 18446744073709551616) (s k : Nat) : (without p (bitN s)).testBit k = (p.testBit k && !decide (s = k)) := by rw [testBit_without hp, testBit_bitN]
end Go.AM
