/- What is put and read, as numbers; Put at uint64. -/
import Derived.Test.YticcedempclapaaOctetsLaw
namespace Go.Proofs.Yticcedempclapaa.Octets
open Go Go.RowKit Go.Proofs.Yticcedempclapaa

/-- What k bytes of a number say. -/
theorem ofB_putB (k : Nat) : ∀ n : Int, k ≤ 8 → (ofB (putB n k) : Int) = n % 256 ^ k := by
  induction k with
  | zero => intro n _; simp [putB, ofB]
  | succ k ih =>
    intro n hk
    have h1 := ih (n / 256) (by omega)
    rw [putB, ofB_snoc]
    have hb : ((UInt8.ofNat (n % 256).toNat).toNat : Int) = n % 256 := by
      simp only [UInt8.toNat_ofNat']
      omega
    have hp : (256 : Int) ^ k * 256 ≤ 18446744073709551616 := by
      match k, hk with
      | 0, _ => decide
      | 1, _ => decide
      | 2, _ => decide
      | 3, _ => decide
      | 4, _ => decide
      | 5, _ => decide
      | 6, _ => decide
      | 7, _ => decide
    have h0 : (0 : Int) < 256 ^ k := Int.pow_pos (by omega)
    have hm : n / 256 % 256 ^ k < 256 ^ k := Int.emod_lt_of_pos _ h0
    have hm0 : 0 ≤ n / 256 % 256 ^ k := Int.emod_nonneg _ (by omega)
    have key : n % 256 ^ (k + 1) = n / 256 % 256 ^ k * 256 + n % 256 := by
      have e1 : n = 256 * (n / 256) + n % 256 := by omega
      have e2 : n / 256 = 256 ^ k * (n / 256 / 256 ^ k) + n / 256 % 256 ^ k := (Int.mul_ediv_add_emod _ _).symm
      have e3 : n = (n / 256 % 256 ^ k * 256 + n % 256) + 256 ^ (k + 1) * (n / 256 / 256 ^ k) := by
        have : (256 : Int) ^ (k + 1) * (n / 256 / 256 ^ k) = 256 * (256 ^ k * (n / 256 / 256 ^ k)) := by rw [Int.pow_succ, Int.mul_comm (256 ^ k) 256, Int.mul_assoc]
        rw [this]
        omega
      rw [show n % 256 ^ (k + 1) = ((n / 256 % 256 ^ k * 256 + n % 256) + 256 ^ (k + 1) * (n / 256 / 256 ^ k)) % 256 ^ (k + 1) from by rw [← e3]]
      rw [Int.add_mul_emod_self_left]
      have hpk : (256 : Int) ^ (k + 1) = 256 ^ k * 256 := Int.pow_succ 256 k
      exact Int.emod_eq_of_lt (by omega) (by rw [hpk]; omega)
    rw [key]
    omega

theorem put_u64 (s : ByteArray) (n size : Int) (w : World) (hs : s.size ≤ 900000000) (hz0 : -9223372036854775807 ≤ size) (hn : 0 ≤ n ∧ n ≤ 18446744073709551615) :
    Calls Try.prog 41 #[.string s, .int .u64 n, .int .i64 size] w (Ret w (.string ⟨(s.data.toList ++ putB n (min size 8).toNat).toArray⟩)) := by
  obtain ⟨i0, hi, hz, hz1, hz2⟩ := info_parts byte_info
  go_enter Try.func41, Try.ntmps41
  go_wp2_with (refine wpList_bytes rfl (.tmp 9) _ _ _ rfl Try.underlying9 Try.underlying84 Try.underlying5 s rfl (by unfold maxLen; omega) ?_; intro v w1 hown hb1 hblk)
  have zb := hb1.size
  have hl0 : s.data.toList.length = s.size := by simp
  go_loopg [7, 8] (min size 8).toNat (fun g b i wx => ∃ (iv : Int) (l : List UInt8), i = .int .i64 iv ∧ g = (iv + 1).toNat ∧ iv ≤ 7 ∧ -9223372036854775808 ≤ iv ∧ l.length ≤ s.size + 8 - g ∧ Own wx w.heap.size 1 b l.length (l.map byteVal) ∧
    Aside (l ++ putB n g = s.data.toList ++ putB n (min size 8).toNat) ∧ Below w.heap.size w wx)
  case atStart => exact ⟨_, s.data.toList, rfl, by omega, by omega, by omega, by omega, by rw [hl0]; exact hown, rfl, hb1⟩
  case round =>
    obtain ⟨b0, hb0⟩ : ∃ b0, b0 = u7 := ⟨_, rfl⟩
    subst hb0
    obtain ⟨iv, l, rfl, hg, hi7, hi0, hlen, hown, hA, hbx⟩ := hrel
    have zx := hbx.size
    by_cases hlt : 0 ≤ iv
    · obtain ⟨g, rfl⟩ : ∃ g : Nat, iv = (g : Int) := ⟨iv.toNat, by omega⟩
      have hX := byte_shr n g (by omega)
      rw [IntWalk.u64_in n (by omega)] at hX
      obtain rfl : gk = g + 1 := by omega
      have hA' : l ++ byteAt n g :: putB n g = s.data.toList ++ putB n (min size 8).toNat := by rw [← putB_head]; exact hA.out
      have hown' := Lib.hid hown
      replace hX := Lib.hid hX; replace hA' := Lib.hid hA'
      clear hA hown
      go_wp2_with (at_builtin; (refine wpList_app_new rfl (.tmp 18) (.tmp 24) _ rfl w.heap.size 5 i0 _ 1 1 Try.underlying84 hi hz hz1 hz2 rfl (by omega) b0 l.length (l.map byteVal) rfl hown'.out 1 1 [.int .u8 (n / 2 ^ (8 * g) % 256)] rfl rfl (by intro u hu; simp at hu; subst hu; rfl) (by omega) (by omega) (by omega) ?_; intro v2 w2 hown2 hg2 hat2))
      rw [hX.out] at hown2
      have hbw2 : Below w.heap.size w w2 := hbx.trans (hown'.out.grown_below hg2 (Nat.le_refl _) zx)
      have hO2 : Own w2 w.heap.size 1 v2 (l ++ [byteAt n g]).length ((l ++ [byteAt n g]).map byteVal) := by simpa [byteVal] using hown2
      have hown2 := Lib.hid hO2
      clear hO2 hat2 hg2
      go_wp2_with fail
      go_roundg g
      case measure => omega
      case rel => exact ⟨(g : Int) - 1, l ++ [byteAt n g], rfl, by omega, by omega, by omega, by simp; omega, hown2.out, (show Aside _ from by show _ = _; simpa using hA'.out), hbw2⟩
    · obtain rfl : gk = 0 := by omega
      have hfin : l = s.data.toList ++ putB n (min size 8).toNat := by simpa [putB] using hA.out
      have hstr := run_str (P := Try.prog) w.heap.size _ _ _ Try.underlying84 Try.underlying5 Try.underlying9 _ l l.length rfl hown
      replace hfin := Lib.hid hfin
      go_wp2_with fail
      go_ret
      exact Ret.mk (by rw [← hfin.out]; rfl) hbx

theorem put_u64_at (s : ByteArray) (n size : Int) (w : World) (hs : s.size ≤ 900000000) (hz0 : -9223372036854775807 ≤ size) (hn : 0 ≤ n ∧ n ≤ 18446744073709551615) {r : ByteArray} (h : ⟨(s.data.toList ++ putB n (min size 8).toNat).toArray⟩ = r) :
    Calls Try.prog 41 #[.string s, .int .u64 n, .int .i64 size] w (Ret w (.string r)) := by
  subst h
  exact put_u64 s n size w hs hz0 hn

/-- What is put, behind bytes. -/
def packed (n : Int) (k : Nat) (s : ByteArray) (m : Int) : ByteArray := ⟨(((⟨(putB n k).toArray⟩ : ByteArray) ++ s).data.toList ++ putB m 7).toArray⟩
theorem packed_list (n : Int) (k : Nat) (s : ByteArray) (m : Int) : (packed n k s m).data.toList = putB n k ++ (s.data.toList ++ putB m 7) := by
  unfold packed
  simp
theorem packed_size (n : Int) (k : Nat) (s : ByteArray) (m : Int) : (packed n k s m).size = k + s.size + 7 := by
  have h := congrArg List.length (packed_list n k s m)
  simp [putB_len] at h
  simp [h]; omega
theorem packed_head (n : Int) (k : Nat) (s : ByteArray) (m : Int) : ((packed n k s m).extract 0 (0 + k)).data.toList = putB n k := by
  rw [ByteArray.data_extract, Array.toList_extract, packed_list]
  simp [putB_len, List.extract_eq_take_drop]
theorem packed_mid (n : Int) (k : Nat) (s : ByteArray) (m : Int) : (packed n k s m).extract k (k + s.size) = s := by
  apply ByteArray.ext
  apply Array.toList_inj.1
  rw [ByteArray.data_extract, Array.toList_extract, packed_list]
  simp [putB_len, List.extract_eq_take_drop]
theorem packed_end (n : Int) (k : Nat) (s : ByteArray) (m : Int) : ((packed n k s m).extract (k + s.size) (k + s.size + 7)).data.toList = putB m 7 := by
  rw [ByteArray.data_extract, Array.toList_extract, packed_list, List.extract_eq_take_drop, ← List.append_assoc, List.drop_left' (by simp [putB_len])]
  rw [List.take_of_length_le (by simp [putB_len])]

theorem size_of (size : Int) : ∃ k : Nat, wrap64 (1 + wrap64 ((IntKind.u64.wrap size).tmod 7)) = (k : Int) ∧ 1 ≤ k ∧ k ≤ 7 := by
  rw [IntKind.wrap_u64, Int.tmod_eq_emod_of_nonneg (by omega)]
  rw [IntWalk.wrap64_in (size % 18446744073709551616 % 7) (by omega), IntWalk.wrap64_in _ (by omega)]
  exact ⟨(1 + size % 18446744073709551616 % 7).toNat, by omega, by omega, by omega⟩
theorem putB_size (n : Int) (k : Nat) : (⟨(putB n k).toArray⟩ : ByteArray).size = k := by
  have := putB_len k n
  simp [ByteArray.size, this]
/-- A read that goes through. -/
theorem num_good (s : ByteArray) (at_ k : Nat) (h1 : 1 ≤ k) (h7 : k ≤ 7) (h : at_ + k ≤ s.size) : numV s at_ 0 k = wrap64 (ofB (s.extract at_ (at_ + k)).data.toList) ∧ numA s at_ 0 k = at_ + k ∧ numF s at_ 0 k = 0 := by
  have hb : bad (k : Int) = false := by unfold bad; simp; omega
  have hT : takeF s at_ 0 k false = 0 := by unfold takeF; rw [if_neg (by omega), if_neg (by simp), if_neg (by omega)]
  unfold numV numA numF
  rw [hb, hT]
  simp
theorem num_short (s : ByteArray) (at_ k : Nat) (h1 : 1 ≤ k) (h7 : k ≤ 7) (h : s.size < at_ + k) : numV s at_ 0 k = 0 ∧ numA s at_ 0 k = at_ ∧ numF s at_ 0 k = 1 := by
  have hb : bad (k : Int) = false := by unfold bad; simp; omega
  have hT : takeF s at_ 0 k false = 1 := by unfold takeF; rw [if_neg (by omega), if_neg (by simp), if_pos (by omega)]
  unfold numV numA numF
  rw [hb, hT]
  simp
theorem bytes_good (s : ByteArray) (at_ k : Nat) (h : at_ + k ≤ s.size) : bytesV s at_ 0 k = s.extract at_ (at_ + k) ∧ bytesA s at_ 0 k = at_ + k ∧ bytesF s at_ 0 k = 0 := by
  have hb : decide ((k : Int) < 0) = false := decide_eq_false (by omega)
  have hT : takeF s at_ 0 k false = 0 := by unfold takeF; rw [if_neg (by omega), if_neg (by simp), if_neg (by omega)]
  unfold bytesV bytesA bytesF
  rw [hb, hT]
  simp
theorem pow_bd (k : Nat) (h : k ≤ 7) : (256 : Int) ^ k ≤ 72057594037927936 ∧ 0 < (256 : Int) ^ k := by
  match k, h with
  | 0, _ => decide
  | 1, _ => decide
  | 2, _ => decide
  | 3, _ => decide
  | 4, _ => decide
  | 5, _ => decide
  | 6, _ => decide
  | 7, _ => decide
theorem wrap_putB (n : Int) (k : Nat) (h : k ≤ 7) : wrap64 (ofB (putB n k)) = n % 256 ^ k := by
  obtain ⟨h1, h2⟩ := pow_bd k h
  have := Int.emod_nonneg n (show (256 : Int) ^ k ≠ 0 by omega)
  have := Int.emod_lt_of_pos n h2
  rw [ofB_putB k n (by omega), IntWalk.wrap64_in _ (by omega)]
theorem shl_mod (n : Int) (k : Nat) (h7 : k ≤ 7) : (IntKind.u64.wrap n).tmod (IntKind.u64.wrap (2 ^ (8 * k))) = n % 256 ^ k ∧ ¬ IntKind.u64.wrap (2 ^ (8 * k)) = 0 := by
  obtain ⟨h1, h2⟩ := pow_bd k h7
  have e : (2 : Int) ^ (8 * k) = 256 ^ k := by rw [Int.pow_mul]; rfl
  have e1 : IntKind.u64.wrap (2 ^ (8 * k)) = 256 ^ k := by
    rw [e]
    exact IntWalk.u64_in _ ⟨Int.le_of_lt h2, Int.le_trans h1 (by decide)⟩
  rw [e1]
  refine ⟨?_, Int.ne_of_gt h2⟩
  rw [IntKind.wrap_u64, Int.tmod_eq_emod_of_nonneg (Int.emod_nonneg _ (by decide))]
  refine Int.emod_emod_of_dvd n ?_
  exact ⟨256 ^ (8 - k), by rw [← Int.pow_add, show k + (8 - k) = 8 by omega]; rfl⟩
end Go.Proofs.Yticcedempclapaa.Octets
