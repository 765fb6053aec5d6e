/- The walk of the statement InetPatched. -/
import Derived.Test.YthodfihdmhkgeaaInetPut
namespace Go.Proofs.Ythodfihdmhkgeaa.Inet
set_option linter.unusedSimpArgs false
set_option linter.unusedVariables false
open Go Go.RowKit Go.Proofs.Ythodfihdmhkgeaa Go.Proofs.Ythodfihdmhkgeaa.Octets
attribute [local irreducible] Calls

theorem words_two_le : ∀ (l : List UInt8) (k : Nat), k % 2 = 0 → (h : k + 1 < l.length) → 256 * (l[k]).toNat + (l[k + 1]).toNat ≤ words l
  | [], k, _, h => by simp at h
  | [x], k, _, h => by simp at h
  | x :: y :: l, 0, _, h => by simp [words]
  | x :: y :: l, 1, h2, h => by simp at h2
  | x :: y :: l, k + 2, h2, h => by
    have := words_two_le l k (by omega) (by simp only [List.length_cons] at h; omega)
    simp only [words, List.getElem_cons_succ]
    omega

theorem place (at_ : Int) (m : Nat) (h : 1 ≤ m) (hm : m ≤ 1500) (ha : -9223372036854775808 ≤ at_ ∧ at_ ≤ 9223372036854775807) : ∃ k : Nat, (IntKind.u64.wrap at_).tmod m = k ∧ k < m := by
  have h0 : 0 ≤ IntKind.u64.wrap at_ := by rw [IntKind.wrap_u64]; omega
  refine ⟨((IntKind.u64.wrap at_).tmod m).toNat, ?_, ?_⟩
  · rw [Int.toNat_of_nonneg (Int.tmod_nonneg _ h0)]
  · have := Int.tmod_lt_of_pos (IntKind.u64.wrap at_) (b := m) (by omega)
    have := Int.tmod_nonneg (m : Int) h0
    omega

set_option maxRecDepth 100000 in
theorem patched_walk (s : ByteArray) (ws : s.size ≤ maxLen) (at_ : Int) (wa : (Lit.int .i64 at_).wf = true) (n : Int) (wn : (Lit.int .u16 n).wf = true) (w : World) :
    Calls Try.prog 9 #[.string s, .int .i64 at_, .int .u16 n] w (Ret w (.bool true)) := by
  have ba := bounds_i64 wa
  have bn := bounds_u16 wn
  unfold maxLen at ws
  go_enter Try.func9, Try.ntmps9
  go_wp2_with fail
  refine Calls.mono (works_law _) ?_
  rintro e w1 ⟨rfl, hb1⟩
  have z1 := Below.size hb1; try simp only [World.size_alloc, World.size_setCell, World.size_drew] at z1
  by_cases h3 : 3000 < s.size
  · have q : decide ((3000 : Int) < s.size) = true := decide_eq_true (by omega)
    go_wp2_with fail
    go_ret
    exact Ret.mk rfl (by repeat (first | with_reducible exact Below.refl _ _ | (with_reducible refine Below.al ?_) | (with_reducible refine Below.drew ?_) | (with_reducible refine Below.set ?_ (by first | (simp; done) | omega | (simp; omega))) | (with_reducible refine Below.thru ?_ (by assumption)) | (with_reducible refine Below.chg ?_ (by assumption) (by first | (simp; done) | omega | (simp; omega)))))
  · have q : decide ((3000 : Int) < s.size) = false := decide_eq_false (by omega)
    by_cases h2 : s.size < 2
    · have q2 : decide ((s.size : Int) < 2) = true := decide_eq_true (by omega)
      go_wp2_with fail
      go_ret
      exact Ret.mk rfl (by repeat (first | with_reducible exact Below.refl _ _ | (with_reducible refine Below.al ?_) | (with_reducible refine Below.drew ?_) | (with_reducible refine Below.set ?_ (by first | (simp; done) | omega | (simp; omega))) | (with_reducible refine Below.thru ?_ (by assumption)) | (with_reducible refine Below.chg ?_ (by assumption) (by first | (simp; done) | omega | (simp; omega)))))
    · have q2 : decide ((s.size : Int) < 2) = false := decide_eq_false (by omega)
      obtain ⟨k, hk, hkm⟩ := place at_ (s.size / 2) (by omega) (by omega) ba
      have hk1 : 2 * k + 1 < s.size := by omega
      have hE : wrap64 (2 * wrap64 ((IntKind.u64.wrap at_).tmod ((s.size : Int) / 2))) = ((2 * k : Nat) : Int) := by
        rw [show ((s.size : Int) / 2) = ((s.size / 2 : Nat) : Int) from by omega, hk]
        simp only [wrap64]; omega
      clear hk
      have hE' := hE
      go_wp2_with fail
      rw [hE'] at *
      refine Calls.mono (put_law s (2 * k) n hk1 (by omega) bn _) ?_
      rintro e w2 ⟨rfl, hb2⟩
      have hl0 : s.data.toList.length = s.size := by simp
      have hset := words_set s.data.toList (2 * k) (UInt8.ofNat (n / 256).toNat) (UInt8.ofNat (n % 256).toNat) (by omega) (by omega)
      have hle := words_two_le s.data.toList (2 * k) (by omega) (by omega)
      have x0 := (s.data.toList[2 * k]'(by omega)).toNat_lt
      have x1 := (s.data.toList[2 * k + 1]'(by omega)).toNat_lt
      have q1 : (UInt8.ofNat (n / 256).toNat).toNat = (n / 256).toNat := by rw [UInt8.toNat_ofNat']; omega
      have q2' : (UInt8.ofNat (n % 256).toNat).toNat = (n % 256).toNat := by rw [UInt8.toNat_ofNat']; omega
      rw [q1, q2'] at hset
      obtain ⟨t, ht⟩ : ∃ t : ByteArray, t = putS s (2 * k) n := ⟨_, rfl⟩
      have htl : (s.data.toList.set (2 * k) (UInt8.ofNat (n / 256).toNat)).set (2 * k + 1) (UInt8.ofNat (n % 256).toNat) = t.data.toList := by rw [ht]; rfl
      rw [htl] at hset
      have hts : t.size = s.size := by
        have := congrArg List.length htl
        simpa using this.symm
      rw [← ht]
      obtain ⟨old, hold⟩ : ∃ x : Int, x = 256 * ((s.data.toList[2 * k]'(by omega)).toNat : Int) + ((s.data.toList[2 * k + 1]'(by omega)).toNat : Int) := ⟨_, rfl⟩
      rw [← hold]
      have hP := patched (words s.data.toList : Int) (words t.data.toList : Int) old n (by omega) (by omega) (by omega) (by omega)
      have SA := fun (a : Option Addr) w h => sum_any [t] 1 rfl (by omega) (by simp; omega) a 1 w h
      have SB := fun (a : Option Addr) w h => sum_any [s] 1 rfl (by omega) (by simp; omega) a 1 w h
      rw [show wsum [t] = words t.data.toList from by simp [wsum]] at SA
      rw [show wsum [s] = words s.data.toList from by simp [wsum]] at SB
      obtain ⟨hA0, hA1⟩ : 0 ≤ sumV (words t.data.toList : Int) ∧ sumV (words t.data.toList : Int) ≤ 65535 := by unfold sumV; have := ocI_bd (words t.data.toList : Int); omega
      generalize sumV (words t.data.toList : Int) = A at *
      obtain ⟨S, hS⟩ : ∃ S, S = sumV (words s.data.toList : Int) := ⟨_, rfl⟩
      rw [← hS] at SB hP
      have PC := patch_any S old n
      obtain ⟨B, hB⟩ : ∃ B, B = 65535 - ocI (65535 - S % 65536 + (65535 - old % 65536) + n % 65536) := ⟨_, rfl⟩
      rw [← hB] at PC hP
      have hB01 := ocI_bd (65535 - S % 65536 + (65535 - old % 65536) + n % 65536)
      have hB0 : 0 ≤ B := by omega
      have hB1 : B ≤ 65535 := by omega
      clear hB01
      clear hE hE' hset hle x0 x1 q1 q2' htl hS hB ht hold
      obtain ⟨bn0, bn1⟩ := bn
      replace SA := Lib.hid SA; replace SB := Lib.hid SB; replace PC := Lib.hid PC; replace hP := Lib.hid hP
      go_wp2_with fail
      refine Calls.mono (SA.out _ _ (rd_lit (vs := [.string t]) (t := 9))) ?_
      rintro e w3 ⟨rfl, hb3⟩
      go_wp2_with fail
      refine Calls.mono (SB.out _ _ (rd_lit (vs := [.string s]) (t := 9))) ?_
      rintro e w4 ⟨rfl, hb4⟩
      go_wp2_with fail
      refine Calls.mono (PC.out _) ?_
      rintro e w5 ⟨rfl, hb5⟩
      have z5 := Below.size hb5; try simp only [World.size_alloc, World.size_setCell, World.size_drew] at z5
      by_cases e1 : A = B
      · have r1 : decide (A = B) = true := decide_eq_true e1
        replace e1 := Lib.hid e1
        go_wp2_with fail
        go_ret
        exact Ret.mk rfl (by repeat (first | with_reducible exact Below.refl _ _ | (with_reducible refine Below.al ?_) | (with_reducible refine Below.drew ?_) | (with_reducible refine Below.set ?_ (by first | (simp; done) | omega | (simp; omega))) | (with_reducible refine Below.thru ?_ (by assumption)) | (with_reducible refine Below.chg ?_ (by assumption) (by first | (simp; done) | omega | (simp; omega)))))
      · have r1 : decide (A = B) = false := decide_eq_false e1
        obtain ⟨e2, e3⟩ := hP.out.resolve_left e1
        have r2 : decide (A + B = 65535) = true := decide_eq_true e2
        by_cases e4 : A = 0
        · have r3 : decide (A = 0) = true := decide_eq_true e4
          replace e1 := Lib.hid e1; replace e2 := Lib.hid e2; replace e3 := Lib.hid e3; replace e4 := Lib.hid e4
          go_wp2_with fail
          go_ret
          exact Ret.mk rfl (by repeat (first | with_reducible exact Below.refl _ _ | (with_reducible refine Below.al ?_) | (with_reducible refine Below.drew ?_) | (with_reducible refine Below.set ?_ (by first | (simp; done) | omega | (simp; omega))) | (with_reducible refine Below.thru ?_ (by assumption)) | (with_reducible refine Below.chg ?_ (by assumption) (by first | (simp; done) | omega | (simp; omega)))))
        · have r3 : decide (A = 0) = false := decide_eq_false e4
          have r4 : decide (B = 0) = true := decide_eq_true (e3.resolve_left e4)
          replace e1 := Lib.hid e1; replace e2 := Lib.hid e2; replace e3 := Lib.hid e3; replace e4 := Lib.hid e4
          go_wp2_with fail
          go_ret
          exact Ret.mk (by have := e2.out; have := e3.out.resolve_left e4.out; simp; omega) (by repeat (first | with_reducible exact Below.refl _ _ | (with_reducible refine Below.al ?_) | (with_reducible refine Below.drew ?_) | (with_reducible refine Below.set ?_ (by first | (simp; done) | omega | (simp; omega))) | (with_reducible refine Below.thru ?_ (by assumption)) | (with_reducible refine Below.chg ?_ (by assumption) (by first | (simp; done) | omega | (simp; omega)))))
end Go.Proofs.Ythodfihdmhkgeaa.Inet
