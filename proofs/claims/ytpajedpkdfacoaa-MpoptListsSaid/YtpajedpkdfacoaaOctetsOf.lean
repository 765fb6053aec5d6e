
/- The walks of octets.Of, and of the document's answer for it. -/
import Derived.Test.YtpajedpkdfacoaaOctets
namespace Go.Proofs.Ytpajedpkdfacoaa.Octets
set_option linter.unusedSimpArgs false
set_option linter.unusedVariables false
open Go Go.RowKit Go.Proofs.Ytpajedpkdfacoaa

/-- The number that bytes are, below 2^64. -/
def ofB (l : List UInt8) : Nat := l.foldl (fun n b => (n * 256 + b.toNat) % 18446744073709551616) 0
theorem ofB_lt (l : List UInt8) : ofB l < 18446744073709551616 := by
  have : ∀ (l : List UInt8) (n : Nat), n < 18446744073709551616 → l.foldl (fun n b => (n * 256 + b.toNat) % 18446744073709551616) n < 18446744073709551616 := by
    intro l
    induction l with
    | nil => intro n h; exact h
    | cons b l ih => intro n _; exact ih _ (Nat.mod_lt _ (by omega))
  exact this l 0 (by omega)
theorem ofB_snoc (l : List UInt8) (b : UInt8) : ofB (l ++ [b]) = (ofB l * 256 + b.toNat) % 18446744073709551616 := by simp [ofB]
theorem take_snoc (s : ByteArray) (k : Nat) (h : k < s.size) : s.data.toList.take (k + 1) = s.data.toList.take k ++ [s[k]] := by
  rw [List.take_succ_eq_append_getElem (by simpa using h)]; rfl

theorem or_byte (x b : Nat) (hb : b < 256) : bits .or .u64 (IntKind.u64.wrap ((x : Int) * 256)) (b : Int) = (((x * 256 + b) % 18446744073709551616 : Nat) : Int) := by
  have h1 : IntKind.u64.wrap ((x : Int) * 256) = ((x * 256 % 18446744073709551616 : Nat) : Int) := by rw [IntKind.wrap_u64]; omega
  rw [h1, bits_or_u64_nat _ _ (Nat.mod_lt _ (by omega)) (by omega)]
  have h2 : x * 256 % 18446744073709551616 = 2 ^ 8 * (x % 72057594037927936) := by omega
  rw [h2, ← Nat.two_pow_add_eq_or_of_lt (i := 8) (by omega)]
  congr 1
  omega

theorem of_int (s : ByteArray) (w : World) (hs : s.size ≤ 900000000) :
    Calls Try.prog 77 #[.string s] w (Ret w (.int .i64 (wrap64 (ofB s.data.toList)))) := by
  go_enter Try.func77, Try.ntmps77
  go_wp2_with fail
  go_loopg [3, 7] s.size (fun g x i wx => w = wx ∧ ∃ k : Nat, k ≤ s.size ∧ g = s.size - k ∧ i = .int .i64 k ∧ x = .int .u64 (ofB (s.data.toList.take k)))
  case atStart => exact ⟨rfl, 0, Nat.zero_le _, by omega, rfl, rfl⟩
  case round =>
    obtain ⟨rfl, k, hk, hg, rfl, rfl⟩ := hrel
    have hlt64 := ofB_lt (s.data.toList.take k)
    by_cases hlt : k < s.size
    · have hb : ((s[k].toNat : Nat) : Int) < 256 := by have := s[k].toNat_lt; omega
      have hor := or_byte (ofB (s.data.toList.take k)) s[k].toNat (by omega)
      rw [← ofB_snoc, ← take_snoc s k hlt] at hor
      replace hor := Lib.hid hor
      go_wp2_with fail
      go_roundg (s.size - (k + 1))
      case measure => omega
      case rel => exact ⟨rfl, k + 1, by omega, rfl, by go_num, by rw [← hor.out]⟩
    · obtain rfl : k = s.size := by omega
      have ht : s.data.toList.take s.size = s.data.toList := List.take_of_length_le (by simp)
      replace ht := Lib.hid ht
      go_wp2_with fail
      go_ret
      exact Ret.mk (by rw [ht.out]; rfl) (by repeat (first | with_reducible exact Below.refl _ _ | (with_reducible refine Below.al ?_) | (with_reducible refine Below.drew ?_) | (with_reducible refine Below.set ?_ (by first | (simp; done) | omega | (simp; omega))) | (with_reducible refine Below.thru ?_ (by assumption)) | (with_reducible refine Below.chg ?_ (by assumption) (by first | (simp; done) | omega | (simp; omega)))))

theorem mul_byte (x b : Nat) : IntKind.u64.wrap (IntKind.u64.wrap (256 * (x : Int)) + (b : Int)) = (((x * 256 + b) % 18446744073709551616 : Nat) : Int) := by
  rw [IntKind.wrap_u64, IntKind.wrap_u64]; omega

theorem of_ref (s : ByteArray) (w : World) (hs : s.size ≤ 900000000) :
    Calls Try.prog 80 #[.string s] w (Ret w (.int .u64 (ofB s.data.toList))) := by
  go_enter Try.func80, Try.ntmps80
  go_wp2_with fail
  go_loopg [3, 4] s.size (fun g x i wx => w = wx ∧ ∃ k : Nat, k ≤ s.size ∧ g = s.size - k ∧ i = .int .i64 k ∧ x = .int .u64 (ofB (s.data.toList.take k)))
  case atStart => exact ⟨rfl, 0, Nat.zero_le _, by omega, rfl, rfl⟩
  case round =>
    obtain ⟨rfl, k, hk, hg, rfl, rfl⟩ := hrel
    have hlt64 := ofB_lt (s.data.toList.take k)
    by_cases hlt : k < s.size
    · have hb : ((s[k].toNat : Nat) : Int) < 256 := by have := s[k].toNat_lt; omega
      have hor := mul_byte (ofB (s.data.toList.take k)) s[k].toNat
      rw [← ofB_snoc, ← take_snoc s k hlt] at hor
      replace hor := Lib.hid hor
      go_wp2_with fail
      go_roundg (s.size - (k + 1))
      case measure => omega
      case rel => exact ⟨rfl, k + 1, by omega, rfl, by go_num, by rw [← hor.out]⟩
    · obtain rfl : k = s.size := by omega
      have ht : s.data.toList.take s.size = s.data.toList := List.take_of_length_le (by simp)
      replace ht := Lib.hid ht
      go_wp2_with fail
      go_ret
      exact Ret.mk (by rw [ht.out]; rfl) (by repeat (first | with_reducible exact Below.refl _ _ | (with_reducible refine Below.al ?_) | (with_reducible refine Below.drew ?_) | (with_reducible refine Below.set ?_ (by first | (simp; done) | omega | (simp; omega))) | (with_reducible refine Below.thru ?_ (by assumption)) | (with_reducible refine Below.chg ?_ (by assumption) (by first | (simp; done) | omega | (simp; omega)))))
end Go.Proofs.Ytpajedpkdfacoaa.Octets
