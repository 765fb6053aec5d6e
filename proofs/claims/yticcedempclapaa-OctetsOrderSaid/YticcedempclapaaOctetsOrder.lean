/- The walk of the statement OctetsOrder. -/
import Derived.Test.YticcedempclapaaOctetsBack
namespace Go.Proofs.Yticcedempclapaa.Octets
open Go Go.RowKit Go.Proofs.Yticcedempclapaa
attribute [local irreducible] Calls

theorem less_app (a b : UInt8) : ∀ x y : List UInt8, x.length = y.length → Op.bytesLess (x ++ [a]) (y ++ [b]) = (Op.bytesLess x y || (x == y && decide (a < b)))
  | [], [], _ => by simp [Op.bytesLess]
  | [], _ :: _, h => by simp at h
  | _ :: _, [], h => by simp at h
  | c :: x, d :: y, h => by
    have ih := less_app a b x y (by simpa using h)
    simp only [List.cons_append, Op.bytesLess, ih]
    by_cases e : c = d
    · subst e; simp
    · simp [e, Bool.and_or_distrib_left, Bool.or_assoc, Bool.and_assoc]
theorem putB_inj (k : Nat) (a b : Int) (hk : k ≤ 8) (ha : 0 ≤ a) (ha' : a < 256 ^ k) (hb : 0 ≤ b) (hb' : b < 256 ^ k) : (putB a k == putB b k) = decide (a = b) := by
  by_cases h : a = b
  · subst h; simp
  · have : putB a k ≠ putB b k := fun e => by
      have h1 := ofB_putB k a hk
      have h2 := ofB_putB k b hk
      rw [e, h2, Int.emod_eq_of_lt hb hb', Int.emod_eq_of_lt ha ha'] at h1
      exact h h1.symm
    simp [h, this]
theorem less_putB (k : Nat) : ∀ a b : Int, k ≤ 8 → 0 ≤ a → a < 256 ^ k → 0 ≤ b → b < 256 ^ k → Op.bytesLess (putB a k) (putB b k) = decide (a < b) := by
  induction k with
  | zero => intro a b _ ha ha' hb hb'; simp only [Int.pow_zero] at ha' hb'; simp [putB, Op.bytesLess]; omega
  | succ k ih =>
    intro a b hk ha ha' hb hb'
    have hp : (256 : Int) ^ (k + 1) = 256 * 256 ^ k := by rw [Int.pow_succ, Int.mul_comm]
    rw [hp] at ha' hb'
    generalize hq : (256 : Int) ^ k = q at *
    have e1 := ih (a / 256) (b / 256) (by omega) (by omega) (by omega) (by omega) (by omega)
    have e2 := putB_inj k (a / 256) (b / 256) (by omega) (by omega) (by rw [hq]; omega) (by omega) (by rw [hq]; omega)
    rw [putB, putB, less_app _ _ _ _ (by rw [putB_len, putB_len]), e1, e2]
    rw [Bool.eq_iff_iff]
    simp [UInt8.lt_iff_toNat_lt]
    omega
theorem putB_drop (m : Nat) (n : Int) : ∀ j : Nat, (putB n (j + m)).drop j = putB n m
  | 0 => by simp
  | j + 1 => by rw [show j + 1 + m = (j + m) + 1 by omega, putB_head]; simpa using putB_drop m n j
theorem pow_mono (g : Nat) (hg : 4 ≤ g) : (256 : Int) ^ 4 ≤ 256 ^ g := by
  have := Nat.pow_le_pow_right (n := 256) (by omega) hg
  have h : ((256 ^ 4 : Nat) : Int) ≤ ((256 ^ g : Nat) : Int) := Int.ofNat_le.2 this
  rw [Int.natCast_pow, Int.natCast_pow] at h
  exact h
theorem byteAt_zero (n : Int) (g : Nat) (h0 : 0 ≤ n) (h1 : n < 256 ^ 4) (hg : 4 ≤ g) : byteAt n g = 0 := by
  have hp := pow_mono g hg
  have : n / 256 ^ g = 0 := Int.ediv_eq_zero_of_lt h0 (by omega)
  unfold byteAt
  rw [this]; rfl
theorem putB_zero (n : Int) (h0 : 0 ≤ n) (h1 : n < 256 ^ 4) : ∀ (k i : Nat), i + 4 < k → (putB n k)[i]? = some 0
  | 0, i, h => by omega
  | k + 1, 0, h => by rw [putB_head, byteAt_zero n k h0 h1 (by omega)]; rfl
  | k + 1, i + 1, h => by rw [putB_head]; simpa using putB_zero n h0 h1 k i (by omega)
theorem putB_at (n : Int) (h0 : 0 ≤ n) (h1 : n < 256 ^ 4) (k i : Nat) (h : i + 4 < k) (hi : i < (⟨(putB n k).toArray⟩ : ByteArray).size) : (⟨(putB n k).toArray⟩ : ByteArray)[i] = 0 := by
  have := putB_zero n h0 h1 k i h
  obtain ⟨_, e⟩ := List.getElem?_eq_some_iff.1 this
  exact e
set_option maxRecDepth 100000 in
set_option maxHeartbeats 2000000 in
theorem order_walk (a : Int) (w0 : (Lit.int .u32 a).wf = true) (b : Int) (w1 : (Lit.int .u32 b).wf = true) (size : Int) (w2 : (Lit.int .i64 size).wf = true) (w : World) :
    Calls Try.prog 10 #[.int .u32 a, .int .u32 b, .int .i64 size] w (Ret w (.bool true)) := by
  have ⟨a0, a1⟩ := bounds_u32 w0
  have ⟨b0, b1⟩ := bounds_u32 w1
  obtain ⟨k, hk, hk4, hk8⟩ : ∃ k : Nat, min (max size 4) 8 = (k : Int) ∧ 4 ≤ k ∧ k ≤ 8 := ⟨(min (max size 4) 8).toNat, by omega, by omega, by omega⟩
  replace hk := Lib.hid hk
  have hle := pow_mono k hk4
  have h4 : (256 : Int) ^ 4 = 4294967296 := by decide
  obtain ⟨x, hx, sx, lx, x0, x4⟩ : ∃ x : ByteArray, ⟨(putB a k).toArray⟩ = x ∧ x.size = k ∧ x.toList = putB a k ∧ (∀ i, i + 4 < k → ∀ h : i < x.size, x[i] = 0) ∧ x.extract (k - 4) k = ⟨(putB a 4).toArray⟩ :=
    ⟨_, rfl, putB_size a k, by simp, fun i hi h => putB_at a a0 (by omega) k i hi h, by
      rw [ByteArray.extract_mk]
      have := putB_drop 4 a (k - 4)
      rw [show k - 4 + 4 = k by omega] at this
      rw [this, List.take_of_length_le (by rw [putB_len]; omega)]⟩
  obtain ⟨y, hy, sy, ly, y0⟩ : ∃ y : ByteArray, ⟨(putB b k).toArray⟩ = y ∧ y.size = k ∧ y.toList = putB b k ∧ (∀ i, i + 4 < k → ∀ h : i < y.size, y[i] = 0) :=
    ⟨_, rfl, putB_size b k, by simp, fun i hi h => putB_at b b0 (by omega) k i hi h⟩
  have hless : Op.bytesLess x.toList y.toList = decide (a < b) := by rw [lx, ly]; exact less_putB k a b hk8 a0 (by omega) b0 (by omega)
  have hinj : (x.toList == y.toList) = (a == b) := by rw [lx, ly]; exact putB_inj k a b hk8 a0 (by omega) b0 (by omega)
  have hof : wrap64 (ofB x.data.toList) = a := by
    rw [← hx]
    show wrap64 (ofB (putB a k)) = a
    rw [ofB_putB k a hk8, Int.emod_eq_of_lt a0 (by omega)]
    exact IntWalk.wrap64_in a (by omega)
  have X0 := Lib.hid x0
  have Y0 := Lib.hid y0
  clear x0 y0
  replace hle := Lib.hid hle; replace h4 := Lib.hid h4; replace hx := Lib.hid hx; replace hy := Lib.hid hy; replace lx := Lib.hid lx; replace ly := Lib.hid ly; replace x4 := Lib.hid x4; replace hof := Lib.hid hof
  go_enter Try.func10, Try.ntmps10
  go_wp2_with fail
  refine Calls.mono (works_law _) ?_
  rintro e w1 ⟨rfl, hb1⟩
  have z1 := Below.size hb1; try simp only [World.size_alloc, World.size_setCell, World.size_drew] at z1
  go_wp2_with fail
  rw [hk.out]
  go_wp2_with fail
  refine Calls.mono (put_int_at ⟨#[]⟩ a k _ (by decide) (by omega) (by omega) (r := x) (by rw [show (min (k : Int) 8).toNat = k by omega]; exact hx.out)) ?_
  rintro e w2 ⟨rfl, hb2⟩
  have z2 := Below.size hb2; try simp only [World.size_alloc, World.size_setCell, World.size_drew] at z2
  go_wp2_with fail
  refine Calls.mono (put_int_at ⟨#[]⟩ b k _ (by decide) (by omega) (by omega) (r := y) (by rw [show (min (k : Int) 8).toNat = k by omega]; exact hy.out)) ?_
  rintro e w3 ⟨rfl, hb3⟩
  have z3 := Below.size hb3; try simp only [World.size_alloc, World.size_setCell, World.size_drew] at z3
  go_wp2_with fail
  go_loopg [10] k (fun g i wx => w3 = wx ∧ ∃ j : Nat, j + 4 ≤ k ∧ g = k - j ∧ i = .int .i64 j)
  case atStart => exact ⟨rfl, 0, by omega, rfl, rfl⟩
  case round =>
    obtain ⟨rfl, j, hj, hg, rfl⟩ := hrel
    by_cases hlt : j + 4 < k
    · have e1 := X0.out j hlt (by rw [sx]; omega)
      have e2 := Y0.out j hlt (by rw [sy]; omega)
      go_wp2_with fail
      go_roundg (k - (j + 1))
      case measure => omega
      case rel => exact ⟨rfl, j + 1, by omega, rfl, by go_num⟩
    · go_wp2_with fail
      refine wp_region_near (by kernel_rfl) (by kernel_rfl) ?_
      intro hs
      repeat (go_big_quiet_step ((first | (go_at_call 44; exact Calls.near (by simp) (of_int_at x _ (by rw [sx]; omega) (v := a) hof.out)) | (go_at_call 42; exact Calls.near (by simp) (put_int_at ⟨#[]⟩ a 4 _ (by decide) (by omega) (by omega) (r := x.extract (k - 4) k) x4.out.symm)))))
      refine wpQuiet_nil ?_
      clear hs
      intro w5 hb5
      go_wp2_with fail
      go_ret
      exact Ret.mk rfl (by repeat (first | with_reducible exact Below.refl _ _ | (with_reducible refine Below.al ?_) | (with_reducible refine Below.drew ?_) | (with_reducible refine Below.set ?_ (by first | (simp; done) | omega | (simp; omega))) | (with_reducible refine Below.thru ?_ (by assumption)) | (with_reducible refine Below.chg ?_ (by assumption) (by first | (simp; done) | omega | (simp; omega)))))
end Go.Proofs.Yticcedempclapaa.Octets
