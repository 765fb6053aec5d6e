
/- The walks of bytes that are read from the front on: Bytes, Num, Rest, and the document's. -/
import Derived.Test.YtpajedpkdfacoaaOctetsCut
import Derived.WalkSpells
namespace Go.Proofs.Ytpajedpkdfacoaa.Octets
set_option linter.unusedSimpArgs false
set_option linter.unusedVariables false
open Go Go.RowKit Go.Proofs.Ytpajedpkdfacoaa

theorem takeF_zero {s : ByteArray} {at_ : Nat} {fell n : Int} {wr : Bool} (h : takeF s at_ fell n wr = 0) (hok : okCut s at_ fell) : fell = 0 ∧ wr = false ∧ n ≤ (s.size : Int) - at_ := by
  obtain ⟨h0, h1, h2, h3⟩ := hok
  unfold takeF at h
  split at h
  · omega
  · split at h
    · omega
    · split at h
      · omega
      · rename_i a b c
        exact ⟨by omega, by simpa using b, by omega⟩

theorem bytes_any (c : Nat) (s : ByteArray) (at_ : Nat) (fell n : Int) (w : World) (hB : Box w c (cut s at_ fell)) (hok : okCut s at_ fell) (hn : -9223372036854775808 ≤ n ∧ n ≤ 9223372036854775807) :
    Calls Try.prog 78 #[.pointer (some ⟨c, 0, none⟩), .int .i64 n] w (RetC w c (.string (bytesV s at_ fell n)) (cut s (bytesA s at_ fell n) (bytesF s at_ fell n))) := by
  have hok' := hok
  have HB := Lib.hid hB
  obtain ⟨zB, cB, fB⟩ := hB
  unfold cut at cB
  by_cases hT : takeF s at_ fell n (decide (n < 0)) = 0
  · obtain ⟨rfl, hw, hle⟩ := takeF_zero hT hok
    obtain ⟨h0, h1, h2, h3⟩ := hok
    obtain ⟨k, rfl⟩ : ∃ k : Nat, n = (k : Int) := ⟨n.toNat, by have := of_decide_eq_false hw; omega⟩
    rw [show bytesV s at_ 0 k = s.extract at_ (at_ + k) by simp [bytesV, hT], show bytesA s at_ 0 k = at_ + k by simp [bytesA, hT], show bytesF s at_ 0 k = 0 by simp only [bytesF, hT]]
    have hd : decide (takeF s at_ 0 k (decide ((k : Int) < 0)) = 0) = true := decide_eq_true hT
    replace hT := Lib.hid hT
    replace hw := Lib.hid hw
    go_enter Try.func78, Try.ntmps78
    go_wp2_with fail
    refine Calls.mono (take_any c s at_ 0 k _ _ HB.out hok' (by omega)) ?_
    rintro e w1 ⟨rfl, hg1, hB1⟩
    have z1 := World.grownBy.size hg1; try simp only [World.size_alloc, World.size_setCell, World.size_drew] at z1
    have HB1 := Lib.hid hB1
    obtain ⟨z1_c, c1_c, f1_c⟩ := hB1
    rw [hT.out] at HB1 c1_c
    rw [hT.out]
    go_wp2_with fail
    refine wp_region_near (by kernel_rfl) (by kernel_rfl) ?_
    intro hs
    repeat (go_big_quiet_step (fail))
    refine wpQuiet_nil ?_
    clear hs
    intro w2 hb2
    go_wp2_with fail
    go_ret
    exact RetC.mk (by simp) (by repeat (first | with_reducible exact grown_refl _ _ | (with_reducible refine grown_al ?_) | (with_reducible refine grown_drew ?_) | (with_reducible refine grown_set ?_ (by first | (left; rfl) | (right; first | omega | (simp; omega)))) | (with_reducible refine grown_below ?_ (by assumption)) | (with_reducible refine grown_trans ?_ (by assumption)))) (by rw [show cut s (at_ + k) 0 = [.string s, .int .i64 ((at_ : Int) + k), .int .i64 0] from by simp [cut]]; exact (by (try rw [show ((0 : Nat) : Int) = 0 from rfl]); repeat (first | (with_reducible exact Hid.out HB1) | (with_reducible refine Box.below ?_ (by assumption)) | (with_reducible refine Box.drew ?_) | (with_reducible refine Box.new_at (by first | rfl | (simp; done) | omega)) | (with_reducible refine Box.al ?_) | (with_reducible apply Box.set0) | (with_reducible apply Box.set1) | (with_reducible apply Box.set2) | (with_reducible apply Box.set3) | (with_reducible apply Box.set4) | (with_reducible apply Box.set5) | (with_reducible apply Box.set6) | (with_reducible apply Box.set7) | (with_reducible apply Box.set8) | (with_reducible refine Box.oth ?_ (by first | (simp; done) | omega | (simp; omega))) | (with_reducible refine Box.chg ?_ (by assumption) (by first | (simp; done) | omega | (simp; omega))))))
  · obtain ⟨h0, h1, h2, h3⟩ := hok
    rw [show bytesV s at_ fell n = ByteArray.empty by simp [bytesV, hT], show bytesA s at_ fell n = at_ by simp [bytesA, hT], show bytesF s at_ fell n = takeF s at_ fell n (decide (n < 0)) by simp only [bytesF]]
    have hd : decide (takeF s at_ fell n (decide (n < 0)) = 0) = false := decide_eq_false hT
    replace hT := Lib.hid hT
    go_enter Try.func78, Try.ntmps78
    go_wp2_with fail
    refine Calls.mono (take_any c s at_ fell n _ _ HB.out hok' hn) ?_
    rintro e w1 ⟨rfl, hg1, hB1⟩
    have z1 := World.grownBy.size hg1; try simp only [World.size_alloc, World.size_setCell, World.size_drew] at z1
    have HB1 := Lib.hid hB1
    obtain ⟨z1_c, c1_c, f1_c⟩ := hB1
    go_wp2_with fail
    go_ret
    exact RetC.mk rfl (by repeat (first | with_reducible exact grown_refl _ _ | (with_reducible refine grown_al ?_) | (with_reducible refine grown_drew ?_) | (with_reducible refine grown_set ?_ (by first | (left; rfl) | (right; first | omega | (simp; omega)))) | (with_reducible refine grown_below ?_ (by assumption)) | (with_reducible refine grown_trans ?_ (by assumption)))) (by (try rw [show ((0 : Nat) : Int) = 0 from rfl]); repeat (first | (with_reducible exact Hid.out HB1) | (with_reducible refine Box.below ?_ (by assumption)) | (with_reducible refine Box.drew ?_) | (with_reducible refine Box.new_at (by first | rfl | (simp; done) | omega)) | (with_reducible refine Box.al ?_) | (with_reducible apply Box.set0) | (with_reducible apply Box.set1) | (with_reducible apply Box.set2) | (with_reducible apply Box.set3) | (with_reducible apply Box.set4) | (with_reducible apply Box.set5) | (with_reducible apply Box.set6) | (with_reducible apply Box.set7) | (with_reducible apply Box.set8) | (with_reducible refine Box.oth ?_ (by first | (simp; done) | omega | (simp; omega))) | (with_reducible refine Box.chg ?_ (by assumption) (by first | (simp; done) | omega | (simp; omega)))))

theorem bytes_at (c : Nat) (s : ByteArray) (at_ : Nat) (fell n : Int) (w : World) (hB : Box w c (cut s at_ fell)) (hok : okCut s at_ fell) (hn : -9223372036854775808 ≤ n ∧ n ≤ 9223372036854775807)
    {b : ByteArray} {a : Nat} {f : Int} (h1 : bytesV s at_ fell n = b) (h2 : bytesA s at_ fell n = a) (h3 : bytesF s at_ fell n = f) :
    Calls Try.prog 78 #[.pointer (some ⟨c, 0, none⟩), .int .i64 n] w (RetC w c (.string b) (cut s a f)) := by
  subst h1 h2 h3
  exact bytes_any c s at_ fell n w hB hok hn

theorem bytes_nil (n : Int) (w : World) : Calls Try.prog 78 #[.pointer none, .int .i64 n] w (Ret w (.string ByteArray.empty)) := by
  go_enter Try.func78, Try.ntmps78
  go_wp2_with fail
  refine Calls.mono (take_nil _ _ _) ?_
  rintro e w1 ⟨rfl, hb1⟩
  have z1 := Below.size hb1; try simp only [World.size_alloc, World.size_setCell, World.size_drew] at z1
  go_wp2_with fail
  go_ret
  exact Ret.mk rfl (by repeat (first | with_reducible exact Below.refl _ _ | (with_reducible refine Below.al ?_) | (with_reducible refine Below.drew ?_) | (with_reducible refine Below.set ?_ (by first | (simp; done) | omega | (simp; omega))) | (with_reducible refine Below.thru ?_ (by assumption)) | (with_reducible refine Below.chg ?_ (by assumption) (by first | (simp; done) | omega | (simp; omega)))))

/-- A number of 'size' bytes. -/
def bad (size : Int) : Bool := decide (size < 1) || decide (7 < size)
def numV (s : ByteArray) (at_ : Nat) (fell size : Int) : Int := if takeF s at_ fell size (bad size) = 0 then wrap64 (ofB (s.extract at_ (at_ + size.toNat)).data.toList) else 0
def numA (s : ByteArray) (at_ : Nat) (fell size : Int) : Nat := if takeF s at_ fell size (bad size) = 0 then at_ + size.toNat else at_
def numF (s : ByteArray) (at_ : Nat) (fell size : Int) : Int := takeF s at_ fell size (bad size)

theorem num_any (c : Nat) (s : ByteArray) (at_ : Nat) (fell n : Int) (w : World) (hB : Box w c (cut s at_ fell)) (hok : okCut s at_ fell) (hn : -9223372036854775808 ≤ n ∧ n ≤ 9223372036854775807) :
    Calls Try.prog 35 #[.pointer (some ⟨c, 0, none⟩), .int .i64 n] w (RetC w c (.int .i64 (numV s at_ fell n)) (cut s (numA s at_ fell n) (numF s at_ fell n))) := by
  have HB := Lib.hid hB
  have hok' := hok
  obtain ⟨zB, cB, fB⟩ := hB
  unfold cut at cB
  have hbad : (n < 1 ∧ bad n = true) ∨ (1 ≤ n ∧ n ≤ 7 ∧ bad n = false) ∨ (7 < n ∧ bad n = true) := by unfold bad; simp; omega
  by_cases hT : takeF s at_ fell n (bad n) = 0
  · obtain ⟨rfl, hw, hle⟩ := takeF_zero hT hok
    obtain ⟨h0, h1, h2, h3⟩ := hok
    rw [hw] at hbad
    obtain ⟨hn1, hn7⟩ : 1 ≤ n ∧ n ≤ 7 := by simp at hbad; exact hbad
    clear hbad
    rw [show numV s at_ 0 n = wrap64 (ofB (s.extract at_ (at_ + n.toNat)).data.toList) by simp [numV, hT], show numA s at_ 0 n = at_ + n.toNat by simp [numA, hT], show numF s at_ 0 n = 0 by simp only [numF, hT]]
    rw [hw] at hT
    have hd : decide (takeF s at_ 0 n false = 0) = true := decide_eq_true hT
    have hneg : decide (n < 0) = false := decide_eq_false (by omega)
    have hbv : bytesV s at_ 0 n = s.extract at_ (at_ + n.toNat) := by simp [bytesV, hneg, hT]
    have hba : bytesA s at_ 0 n = at_ + n.toNat := by simp [bytesA, hneg, hT]
    have hbf : bytesF s at_ 0 n = 0 := by simp only [bytesF, hneg, hT]
    have hsz : (s.extract at_ (at_ + n.toNat)).size ≤ 900000000 := by simp only [ByteArray.size_extract]; omega
    have hq1 : decide (n < 1) = false := decide_eq_false (by omega)
    have hq2 : decide (7 < n) = false := decide_eq_false (by omega)
    replace hT := Lib.hid hT; replace hw := Lib.hid hw; replace hbv := Lib.hid hbv; replace hba := Lib.hid hba; replace hbf := Lib.hid hbf; replace hneg := Lib.hid hneg
    go_enter Try.func35, Try.ntmps35
    go_wp2_with fail
    refine Calls.mono (take_any c s at_ 0 n false _ HB.out hok' hn) ?_
    rintro e w1 ⟨rfl, hg1, hB1⟩
    have z1 := World.grownBy.size hg1; try simp only [World.size_alloc, World.size_setCell, World.size_drew] at z1
    have HB1 := Lib.hid hB1
    obtain ⟨z1_c, c1_c, f1_c⟩ := hB1
    rw [hT.out] at HB1 c1_c
    rw [hT.out]
    go_wp2_with fail
    refine Calls.mono (bytes_at c s at_ 0 n _ HB1.out hok' hn hbv.out hba.out hbf.out) ?_
    rintro e w2 ⟨rfl, hg2, hB2⟩
    have z2 := World.grownBy.size hg2; try simp only [World.size_alloc, World.size_setCell, World.size_drew] at z2
    have HB2 := Lib.hid hB2
    obtain ⟨z2_c, c2_c, f2_c⟩ := hB2
    go_wp2_with fail
    refine Calls.mono (of_int _ _ hsz) ?_
    rintro e w3 ⟨rfl, hb3⟩
    have z3 := Below.size hb3; try simp only [World.size_alloc, World.size_setCell, World.size_drew] at z3
    obtain ⟨c3_0, f3_0⟩ := Below.blk hb3 (b := c) (by first | (simp; done) | omega | (simp; omega))
    have z3_0 : c < w3.heap.size := (by first | (simp; done) | omega | (simp; omega))
    go_wp2_with fail
    go_ret
    exact RetC.mk (by simp) (by repeat (first | with_reducible exact grown_refl _ _ | (with_reducible refine grown_al ?_) | (with_reducible refine grown_drew ?_) | (with_reducible refine grown_set ?_ (by first | (left; rfl) | (right; first | omega | (simp; omega)))) | (with_reducible refine grown_below ?_ (by assumption)) | (with_reducible refine grown_trans ?_ (by assumption)))) (by (try rw [show ((0 : Nat) : Int) = 0 from rfl]); repeat (first | (with_reducible exact Hid.out HB2) | (with_reducible refine Box.below ?_ (by assumption)) | (with_reducible refine Box.drew ?_) | (with_reducible refine Box.new_at (by first | rfl | (simp; done) | omega)) | (with_reducible refine Box.al ?_) | (with_reducible apply Box.set0) | (with_reducible apply Box.set1) | (with_reducible apply Box.set2) | (with_reducible apply Box.set3) | (with_reducible apply Box.set4) | (with_reducible apply Box.set5) | (with_reducible apply Box.set6) | (with_reducible apply Box.set7) | (with_reducible apply Box.set8) | (with_reducible refine Box.oth ?_ (by first | (simp; done) | omega | (simp; omega))) | (with_reducible refine Box.chg ?_ (by assumption) (by first | (simp; done) | omega | (simp; omega)))))
  · rw [show numV s at_ fell n = 0 by simp [numV, hT], show numA s at_ fell n = at_ by simp [numA, hT], show numF s at_ fell n = takeF s at_ fell n (bad n) by simp only [numF]]
    have hd : decide (takeF s at_ fell n (bad n) = 0) = false := decide_eq_false hT
    clear hok
    rcases hbad with ⟨h1, hb⟩ | ⟨h1, h2, hb⟩ | ⟨h1, hb⟩
    · have q1 : decide (n < 1) = true := decide_eq_true h1
      rw [hb] at hT hd
      rw [hb]
      replace hb := Lib.hid hb
      replace hT := Lib.hid hT
      go_enter Try.func35, Try.ntmps35
      go_wp2_with fail
      refine Calls.mono (take_any c s at_ fell n _ _ HB.out hok' hn) ?_
      rintro e w1 ⟨rfl, hg1, hB1⟩
      have z1 := World.grownBy.size hg1; try simp only [World.size_alloc, World.size_setCell, World.size_drew] at z1
      have HB1 := Lib.hid hB1
      obtain ⟨z1_c, c1_c, f1_c⟩ := hB1
      go_wp2_with fail
      go_ret
      exact RetC.mk rfl (by repeat (first | with_reducible exact grown_refl _ _ | (with_reducible refine grown_al ?_) | (with_reducible refine grown_drew ?_) | (with_reducible refine grown_set ?_ (by first | (left; rfl) | (right; first | omega | (simp; omega)))) | (with_reducible refine grown_below ?_ (by assumption)) | (with_reducible refine grown_trans ?_ (by assumption)))) (by (try rw [show ((0 : Nat) : Int) = 0 from rfl]); repeat (first | (with_reducible exact Hid.out HB1) | (with_reducible refine Box.below ?_ (by assumption)) | (with_reducible refine Box.drew ?_) | (with_reducible refine Box.new_at (by first | rfl | (simp; done) | omega)) | (with_reducible refine Box.al ?_) | (with_reducible apply Box.set0) | (with_reducible apply Box.set1) | (with_reducible apply Box.set2) | (with_reducible apply Box.set3) | (with_reducible apply Box.set4) | (with_reducible apply Box.set5) | (with_reducible apply Box.set6) | (with_reducible apply Box.set7) | (with_reducible apply Box.set8) | (with_reducible refine Box.oth ?_ (by first | (simp; done) | omega | (simp; omega))) | (with_reducible refine Box.chg ?_ (by assumption) (by first | (simp; done) | omega | (simp; omega)))))
    · have q1 : decide (n < 1) = false := decide_eq_false (by omega)
      have q2 : decide (7 < n) = false := decide_eq_false (by omega)
      rw [hb] at hT hd
      rw [hb]
      replace hb := Lib.hid hb
      replace hT := Lib.hid hT
      go_enter Try.func35, Try.ntmps35
      go_wp2_with fail
      refine Calls.mono (take_any c s at_ fell n _ _ HB.out hok' hn) ?_
      rintro e w1 ⟨rfl, hg1, hB1⟩
      have z1 := World.grownBy.size hg1; try simp only [World.size_alloc, World.size_setCell, World.size_drew] at z1
      have HB1 := Lib.hid hB1
      obtain ⟨z1_c, c1_c, f1_c⟩ := hB1
      go_wp2_with fail
      go_ret
      exact RetC.mk rfl (by repeat (first | with_reducible exact grown_refl _ _ | (with_reducible refine grown_al ?_) | (with_reducible refine grown_drew ?_) | (with_reducible refine grown_set ?_ (by first | (left; rfl) | (right; first | omega | (simp; omega)))) | (with_reducible refine grown_below ?_ (by assumption)) | (with_reducible refine grown_trans ?_ (by assumption)))) (by (try rw [show ((0 : Nat) : Int) = 0 from rfl]); repeat (first | (with_reducible exact Hid.out HB1) | (with_reducible refine Box.below ?_ (by assumption)) | (with_reducible refine Box.drew ?_) | (with_reducible refine Box.new_at (by first | rfl | (simp; done) | omega)) | (with_reducible refine Box.al ?_) | (with_reducible apply Box.set0) | (with_reducible apply Box.set1) | (with_reducible apply Box.set2) | (with_reducible apply Box.set3) | (with_reducible apply Box.set4) | (with_reducible apply Box.set5) | (with_reducible apply Box.set6) | (with_reducible apply Box.set7) | (with_reducible apply Box.set8) | (with_reducible refine Box.oth ?_ (by first | (simp; done) | omega | (simp; omega))) | (with_reducible refine Box.chg ?_ (by assumption) (by first | (simp; done) | omega | (simp; omega)))))
    · have q1 : decide (n < 1) = false := decide_eq_false (by omega)
      have q2 : decide (7 < n) = true := decide_eq_true h1
      rw [hb] at hT hd
      rw [hb]
      replace hb := Lib.hid hb
      replace hT := Lib.hid hT
      go_enter Try.func35, Try.ntmps35
      go_wp2_with fail
      refine Calls.mono (take_any c s at_ fell n _ _ HB.out hok' hn) ?_
      rintro e w1 ⟨rfl, hg1, hB1⟩
      have z1 := World.grownBy.size hg1; try simp only [World.size_alloc, World.size_setCell, World.size_drew] at z1
      have HB1 := Lib.hid hB1
      obtain ⟨z1_c, c1_c, f1_c⟩ := hB1
      go_wp2_with fail
      go_ret
      exact RetC.mk rfl (by repeat (first | with_reducible exact grown_refl _ _ | (with_reducible refine grown_al ?_) | (with_reducible refine grown_drew ?_) | (with_reducible refine grown_set ?_ (by first | (left; rfl) | (right; first | omega | (simp; omega)))) | (with_reducible refine grown_below ?_ (by assumption)) | (with_reducible refine grown_trans ?_ (by assumption)))) (by (try rw [show ((0 : Nat) : Int) = 0 from rfl]); repeat (first | (with_reducible exact Hid.out HB1) | (with_reducible refine Box.below ?_ (by assumption)) | (with_reducible refine Box.drew ?_) | (with_reducible refine Box.new_at (by first | rfl | (simp; done) | omega)) | (with_reducible refine Box.al ?_) | (with_reducible apply Box.set0) | (with_reducible apply Box.set1) | (with_reducible apply Box.set2) | (with_reducible apply Box.set3) | (with_reducible apply Box.set4) | (with_reducible apply Box.set5) | (with_reducible apply Box.set6) | (with_reducible apply Box.set7) | (with_reducible apply Box.set8) | (with_reducible refine Box.oth ?_ (by first | (simp; done) | omega | (simp; omega))) | (with_reducible refine Box.chg ?_ (by assumption) (by first | (simp; done) | omega | (simp; omega)))))

theorem num_nil (n : Int) (w : World) : Calls Try.prog 35 #[.pointer none, .int .i64 n] w (Ret w (.int .i64 0)) := by
  have hbad : n < 1 ∨ (1 ≤ n ∧ n ≤ 7) ∨ (7 < n) := by omega
  rcases hbad with h | ⟨h, h'⟩ | h
  all_goals
    go_enter Try.func35, Try.ntmps35
    go_wp2_with fail
    refine Calls.mono (take_nil _ _ _) ?_
    rintro e w1 ⟨rfl, hb1⟩
    have z1 := Below.size hb1; try simp only [World.size_alloc, World.size_setCell, World.size_drew] at z1
    go_wp2_with fail
    go_ret
    exact Ret.mk rfl (by repeat (first | with_reducible exact Below.refl _ _ | (with_reducible refine Below.al ?_) | (with_reducible refine Below.drew ?_) | (with_reducible refine Below.set ?_ (by first | (simp; done) | omega | (simp; omega))) | (with_reducible refine Below.thru ?_ (by assumption)) | (with_reducible refine Below.chg ?_ (by assumption) (by first | (simp; done) | omega | (simp; omega)))))

end Go.Proofs.Ytpajedpkdfacoaa.Octets
