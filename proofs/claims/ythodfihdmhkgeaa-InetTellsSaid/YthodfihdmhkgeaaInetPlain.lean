/- The Internet's checksum: sums of words, folded. -/
import Derived.Test.YthodfihdmhkgeaaBase
namespace Go.Proofs.Ythodfihdmhkgeaa.Inet
set_option linter.unusedSimpArgs false
set_option linter.unusedVariables false
open Go

/-- The sum of the words of bytes; a byte 0 behind an odd last one. -/
def words : List UInt8 → Nat
  | [] => 0
  | [a] => 256 * a.toNat
  | a :: b :: l => 256 * a.toNat + b.toNat + words l
theorem words_app : ∀ a b : List UInt8, a.length % 2 = 0 → words (a ++ b) = words a + words b
  | [], b, _ => by simp [words]
  | [x], b, h => by simp at h
  | x :: y :: a, b, h => by
    have := words_app a b (by simpa [Nat.add_assoc] using h)
    simp only [List.cons_append, words, this]; omega
theorem words_pad : ∀ l : List UInt8, words (l ++ [0]) = words l
  | [] => by simp [words]
  | [x] => by simp [words]
  | x :: y :: l => by
    have := words_pad l
    simp only [List.cons_append, words, this]
theorem words_le : ∀ l : List UInt8, words l ≤ 65535 * l.length
  | [] => by simp [words]
  | [x] => by have := x.toNat_lt; simp [words]; omega
  | x :: y :: l => by
    have := words_le l
    have := x.toNat_lt
    have := y.toNat_lt
    simp only [words, List.length_cons]; omega
theorem words_two (l : List UInt8) (k : Nat) (hk : k % 2 = 0) (h : k + 1 < l.length) : words (l.take (k + 2)) = words (l.take k) + 256 * (l[k]).toNat + (l[k + 1]).toNat := by
  have e : l.take (k + 2) = l.take k ++ [l[k], l[k + 1]] := by
    rw [List.take_succ_eq_append_getElem (by omega), List.take_succ_eq_append_getElem (by omega), List.append_assoc]; rfl
  rw [e, words_app _ _ (by rw [List.length_take]; omega)]
  simp [words]; omega
theorem words_cut (l : List UInt8) (k : Nat) (hk : k % 2 = 0) : words l = words (l.take k) + words (l.drop k) := by
  by_cases h : k ≤ l.length
  · conv => lhs; rw [← List.take_append_drop k l]
    exact words_app _ _ (by rw [List.length_take]; omega)
  · rw [List.take_of_length_le (by omega), List.drop_of_length_le (by omega)]; simp [words]

/-- What is left when all above 16 bits is added at the lower end, again and again. -/
def ocI (n : Int) : Int := if n = 0 then 0 else (n - 1) % 65535 + 1
theorem ocI_fold (n : Int) (h : 65535 < n) : ocI (n % 65536 + n / 65536) = ocI n := by
  unfold ocI
  rw [if_neg (by omega), if_neg (by omega)]
  omega
theorem ocI_small (n : Int) (h0 : 0 ≤ n) (h : n ≤ 65535) : ocI n = n := by
  unfold ocI; split <;> omega
theorem ocI_bd (n : Int) : 0 ≤ ocI n ∧ ocI n ≤ 65535 := by
  unfold ocI; split <;> omega
theorem ocI_add (a b : Int) (ha : 0 ≤ a) (hb : 0 ≤ b) : ocI (ocI a + b) = ocI (a + b) := by
  unfold ocI
  (repeat' split) <;> omega

def wsum (ps : List ByteArray) : Nat := (ps.map fun s => words s.data.toList).sum
theorem wsum_take {ps : List ByteArray} {k : Nat} (h : k < ps.length) : wsum (ps.take (k + 1)) = wsum (ps.take k) + words ps[k].data.toList := by
  unfold wsum
  rw [List.take_succ_eq_append_getElem h, List.map_append, List.sum_append]
  simp
theorem wsum_app (a b : List ByteArray) : wsum (a ++ b) = wsum a + wsum b := by
  unfold wsum; rw [List.map_append, List.sum_append]
theorem wsum_le (B : Nat) : ∀ ps : List ByteArray, (∀ s ∈ ps, s.size ≤ B) → wsum ps ≤ 65535 * B * ps.length
  | [], _ => by simp [wsum]
  | s :: ps, h => by
    have h1 := wsum_le B ps fun x hx => h x (by simp [hx])
    have h2 := words_le s.data.toList
    have h3 : s.data.toList.length ≤ B := by simpa using h s (by simp)
    have h4 : 65535 * s.data.toList.length ≤ 65535 * B := Nat.mul_le_mul_left _ h3
    have e : wsum (s :: ps) = words s.data.toList + wsum ps := by simp [wsum]
    rw [e, List.length_cons, Nat.mul_add]
    omega
/-- The sum of parts. -/
def sumV (W : Int) : Int := 65535 - ocI W

theorem xor_nat (n : Nat) (h : n < 65536) : n ^^^ 65535 = 65535 - n := by
  have h1 : (BitVec.ofNat 16 n ^^^ BitVec.allOnes 16).toNat = n ^^^ 65535 := by
    rw [BitVec.toNat_xor, BitVec.toNat_ofNat, BitVec.toNat_allOnes, Nat.mod_eq_of_lt h]
  have h2 : (BitVec.ofNat 16 n ^^^ BitVec.allOnes 16).toNat = 65535 - n := by
    rw [BitVec.xor_allOnes, BitVec.toNat_not, BitVec.toNat_ofNat, Nat.mod_eq_of_lt h]
  rw [← h1, h2]
theorem xor_mask (n : Int) (h0 : 0 ≤ n) (h1 : n ≤ 65535) : bits .xor .i64 n 65535 = 65535 - n := by
  obtain ⟨k, rfl⟩ : ∃ k : Nat, n = (k : Int) := ⟨n.toNat, by omega⟩
  have h127 : (BitVec.ofInt 64 65535).toNat = 65535 := by decide
  have key : (BitVec.ofInt 64 (k : Int) ^^^ BitVec.ofInt 64 65535).toNat = 65535 - k := by
    rw [BitVec.toNat_xor, BitVec.toNat_ofInt, h127]
    have : ((k : Int) % ((2 ^ 64 : Nat) : Int)).toNat = k := by omega
    rw [this]
    exact xor_nat k (by omega)
  show IntKind.i64.wrap ((BitVec.ofInt 64 (k : Int) ^^^ BitVec.ofInt 64 65535).toNat : Nat) = 65535 - (k : Int)
  rw [key, IntKind.wrap_i64]
  omega
theorem and_mask (n : Int) : bits .and .i64 n 65535 = n % 65536 := by
  have h127 : (BitVec.ofInt 64 65535).toNat = 2 ^ 16 - 1 := by decide
  have key : (BitVec.ofInt 64 n &&& BitVec.ofInt 64 65535).toNat = (n % ((2 ^ 64 : Nat) : Int)).toNat % 2 ^ 16 := by
    rw [BitVec.toNat_and, BitVec.toNat_ofInt, h127, Nat.and_two_pow_sub_one_eq_mod]
  show IntKind.i64.wrap ((BitVec.ofInt 64 n &&& BitVec.ofInt 64 65535).toNat : Nat) = n % 65536
  rw [key, IntKind.wrap_i64]
  omega

/-- One word among others is another one: the sum behind that change. -/
theorem patched (W W' old n : Int) (hold : 0 ≤ old ∧ old ≤ 65535) (hn : 0 ≤ n ∧ n ≤ 65535) (hW : old ≤ W) (hW' : W' = W - old + n) :
    sumV W' = 65535 - ocI (65535 - (sumV W) % 65536 + (65535 - old % 65536) + n % 65536) ∨
    sumV W' + (65535 - ocI (65535 - (sumV W) % 65536 + (65535 - old % 65536) + n % 65536)) = 65535 ∧ (sumV W' = 0 ∨ 65535 - ocI (65535 - (sumV W) % 65536 + (65535 - old % 65536) + n % 65536) = 0) := by
  subst hW'
  unfold sumV ocI
  (repeat' split) <;> omega
end Go.Proofs.Ythodfihdmhkgeaa.Inet
