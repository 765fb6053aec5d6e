/- The walks of the document's bytes that are read from the front on. -/
import Derived.Test.YtpajedpkdfacoaaOctetsRead
namespace Go.Proofs.Ytpajedpkdfacoaa.Octets
set_option linter.unusedSimpArgs false
set_option linter.unusedVariables false
open Go Go.RowKit Go.Proofs.Ytpajedpkdfacoaa

theorem rbytes_any (c : Nat) (s : ByteArray) (at_ : Nat) (fell n : Int) (w : World) (hB : Box w c (cut s at_ fell)) (hok : okCut s at_ fell) (hn : -9223372036854775808 ≤ n ∧ n ≤ 9223372036854775807) :
    Calls Try.prog 40 #[.pointer (some ⟨c, 0, none⟩), .int .i64 n] w (RetC w c (.string (bytesV s at_ fell n)) (cut s (bytesA s at_ fell n) (bytesF s at_ fell n))) := by
  have HB := Lib.hid hB
  obtain ⟨h0, h1, h2, h3⟩ := hok
  obtain ⟨zB, cB, fB⟩ := hB
  unfold cut at cB
  by_cases hf : fell = 0
  · subst hf
    by_cases hn0 : n < 0
    · have hT : takeF s at_ 0 n (decide (n < 0)) = 3 := by simp [takeF, hn0]
      rw [show bytesV s at_ 0 n = ByteArray.empty by simp [bytesV, hT], show bytesA s at_ 0 n = at_ by simp [bytesA, hT], show bytesF s at_ 0 n = 3 by simp only [bytesF, hT]]
      clear hT
      go_enter Try.func40, Try.ntmps40
      go_wp2_with fail
      go_ret
      exact RetC.mk rfl (by repeat (first | with_reducible exact grown_refl _ _ | (with_reducible refine grown_al ?_) | (with_reducible refine grown_drew ?_) | (with_reducible refine grown_set ?_ (by first | (left; rfl) | (right; first | omega | (simp; omega)))) | (with_reducible refine grown_below ?_ (by assumption)) | (with_reducible refine grown_trans ?_ (by assumption)))) (by (try rw [show ((0 : Nat) : Int) = 0 from rfl]); repeat (first | (with_reducible exact Hid.out HB) | (with_reducible refine Box.below ?_ (by assumption)) | (with_reducible refine Box.drew ?_) | (with_reducible refine Box.new_at (by first | rfl | (simp; done) | omega)) | (with_reducible refine Box.al ?_) | (with_reducible apply Box.set0) | (with_reducible apply Box.set1) | (with_reducible apply Box.set2) | (with_reducible apply Box.set3) | (with_reducible apply Box.set4) | (with_reducible apply Box.set5) | (with_reducible apply Box.set6) | (with_reducible apply Box.set7) | (with_reducible apply Box.set8) | (with_reducible refine Box.oth ?_ (by first | (simp; done) | omega | (simp; omega))) | (with_reducible refine Box.chg ?_ (by assumption) (by first | (simp; done) | omega | (simp; omega)))))
    · obtain ⟨k, rfl⟩ : ∃ k : Nat, n = (k : Int) := ⟨n.toNat, by omega⟩
      have hd0 : decide ((k : Int) < 0) = false := decide_eq_false (by omega)
      by_cases hl : (s.size : Int) - at_ < k
      · have hT : takeF s at_ 0 k (decide ((k : Int) < 0)) = 1 := by rw [hd0]; simp [takeF, hl]
        rw [show bytesV s at_ 0 k = ByteArray.empty by simp [bytesV, hT], show bytesA s at_ 0 k = at_ by simp [bytesA, hT], show bytesF s at_ 0 k = 1 by simp only [bytesF, hT]]
        clear hT
        go_enter Try.func40, Try.ntmps40
        go_wp2_with fail
        refine wp_region_near (by kernel_rfl) (by kernel_rfl) ?_
        intro hs
        repeat (go_big_quiet_step (fail))
        refine wpQuiet_nil ?_
        clear hs
        intro w1 hb1
        obtain ⟨c1, f1⟩ := Below.blk hb1 (b := c) (by first | (simp; done) | omega | (simp; omega))
        go_wp2_with fail
        go_ret
        exact RetC.mk rfl (by repeat (first | with_reducible exact grown_refl _ _ | (with_reducible refine grown_al ?_) | (with_reducible refine grown_drew ?_) | (with_reducible refine grown_set ?_ (by first | (left; rfl) | (right; first | omega | (simp; omega)))) | (with_reducible refine grown_below ?_ (by assumption)) | (with_reducible refine grown_trans ?_ (by assumption)))) (by (try rw [show ((0 : Nat) : Int) = 0 from rfl]); repeat (first | (with_reducible exact Hid.out HB) | (with_reducible refine Box.below ?_ (by assumption)) | (with_reducible refine Box.drew ?_) | (with_reducible refine Box.new_at (by first | rfl | (simp; done) | omega)) | (with_reducible refine Box.al ?_) | (with_reducible apply Box.set0) | (with_reducible apply Box.set1) | (with_reducible apply Box.set2) | (with_reducible apply Box.set3) | (with_reducible apply Box.set4) | (with_reducible apply Box.set5) | (with_reducible apply Box.set6) | (with_reducible apply Box.set7) | (with_reducible apply Box.set8) | (with_reducible refine Box.oth ?_ (by first | (simp; done) | omega | (simp; omega))) | (with_reducible refine Box.chg ?_ (by assumption) (by first | (simp; done) | omega | (simp; omega)))))
      · have hT : takeF s at_ 0 k (decide ((k : Int) < 0)) = 0 := by rw [hd0]; simp [takeF, hl]
        rw [show bytesV s at_ 0 k = s.extract at_ (at_ + k) by simp [bytesV, hT], show bytesA s at_ 0 k = at_ + k by simp [bytesA, hT], show bytesF s at_ 0 k = 0 by simp only [bytesF, hT]]
        clear hT
        go_enter Try.func40, Try.ntmps40
        go_wp2_with fail
        refine wp_region_near (by kernel_rfl) (by kernel_rfl) ?_
        intro hs
        repeat (go_big_quiet_step (fail))
        refine wpQuiet_nil ?_
        clear hs
        intro w1 hb1
        obtain ⟨c1, f1⟩ := Below.blk hb1 (b := c) (by first | (simp; done) | omega | (simp; omega))
        have z1 : c < w1.heap.size := by have := hb1.size; omega
        go_wp2_with fail
        refine wp_region_near (by kernel_rfl) (by kernel_rfl) ?_
        intro hs
        repeat (go_big_quiet_step (fail))
        refine wpQuiet_nil ?_
        clear hs
        intro w2 hb2
        go_wp2_with fail
        go_ret
        exact RetC.mk (by simp) (by repeat (first | with_reducible exact grown_refl _ _ | (with_reducible refine grown_al ?_) | (with_reducible refine grown_drew ?_) | (with_reducible refine grown_set ?_ (by first | (left; rfl) | (right; first | omega | (simp; omega)))) | (with_reducible refine grown_below ?_ (by assumption)) | (with_reducible refine grown_trans ?_ (by assumption)))) (by rw [show cut s (at_ + k) 0 = [.string s, .int .i64 ((at_ : Int) + k), .int .i64 0] from by simp [cut]]; exact (by (try rw [show ((0 : Nat) : Int) = 0 from rfl]); repeat (first | (with_reducible exact Hid.out HB) | (with_reducible refine Box.below ?_ (by assumption)) | (with_reducible refine Box.drew ?_) | (with_reducible refine Box.new_at (by first | rfl | (simp; done) | omega)) | (with_reducible refine Box.al ?_) | (with_reducible apply Box.set0) | (with_reducible apply Box.set1) | (with_reducible apply Box.set2) | (with_reducible apply Box.set3) | (with_reducible apply Box.set4) | (with_reducible apply Box.set5) | (with_reducible apply Box.set6) | (with_reducible apply Box.set7) | (with_reducible apply Box.set8) | (with_reducible refine Box.oth ?_ (by first | (simp; done) | omega | (simp; omega))) | (with_reducible refine Box.chg ?_ (by assumption) (by first | (simp; done) | omega | (simp; omega))))))
  · have hT : takeF s at_ fell n (decide (n < 0)) = fell := by simp [takeF, hf]
    rw [show bytesV s at_ fell n = ByteArray.empty by simp [bytesV, hT, hf], show bytesA s at_ fell n = at_ by simp [bytesA, hT, hf], show bytesF s at_ fell n = fell by simp only [bytesF, hT]]
    clear hT
    have hne : (fell != 0) = true := by simpa using hf
    go_enter Try.func40, Try.ntmps40
    go_wp2_with fail
    go_ret
    exact RetC.mk rfl (by repeat (first | with_reducible exact grown_refl _ _ | (with_reducible refine grown_al ?_) | (with_reducible refine grown_drew ?_) | (with_reducible refine grown_set ?_ (by first | (left; rfl) | (right; first | omega | (simp; omega)))) | (with_reducible refine grown_below ?_ (by assumption)) | (with_reducible refine grown_trans ?_ (by assumption)))) (by (try rw [show ((0 : Nat) : Int) = 0 from rfl]); repeat (first | (with_reducible exact Hid.out HB) | (with_reducible refine Box.below ?_ (by assumption)) | (with_reducible refine Box.drew ?_) | (with_reducible refine Box.new_at (by first | rfl | (simp; done) | omega)) | (with_reducible refine Box.al ?_) | (with_reducible apply Box.set0) | (with_reducible apply Box.set1) | (with_reducible apply Box.set2) | (with_reducible apply Box.set3) | (with_reducible apply Box.set4) | (with_reducible apply Box.set5) | (with_reducible apply Box.set6) | (with_reducible apply Box.set7) | (with_reducible apply Box.set8) | (with_reducible refine Box.oth ?_ (by first | (simp; done) | omega | (simp; omega))) | (with_reducible refine Box.chg ?_ (by assumption) (by first | (simp; done) | omega | (simp; omega)))))

theorem rbytes_at (c : Nat) (s : ByteArray) (at_ : Nat) (fell n : Int) (w : World) (hB : Box w c (cut s at_ fell)) (hok : okCut s at_ fell) (hn : -9223372036854775808 ≤ n ∧ n ≤ 9223372036854775807)
    {b : ByteArray} {a : Nat} {f : Int} (h1 : bytesV s at_ fell n = b) (h2 : bytesA s at_ fell n = a) (h3 : bytesF s at_ fell n = f) :
    Calls Try.prog 40 #[.pointer (some ⟨c, 0, none⟩), .int .i64 n] w (RetC w c (.string b) (cut s a f)) := by
  subst h1 h2 h3
  exact rbytes_any c s at_ fell n w hB hok hn

theorem rdone_any (c : Nat) (s : ByteArray) (at_ : Nat) (fell : Int) (w : World) (hB : Box w c (cut s at_ fell)) (hok : okCut s at_ fell) :
    Calls Try.prog 41 #[.pointer (some ⟨c, 0, none⟩)] w (Ret w (.int .i64 (doneF s at_ fell))) := by
  obtain ⟨h0, h1, h2, h3⟩ := hok
  obtain ⟨zB, cB, fB⟩ := hB
  unfold cut at cB
  by_cases hf : fell = 0
  · subst hf
    by_cases hl : at_ < s.size
    · rw [show doneF s at_ 0 = 2 by simp [doneF, hl]]
      have hd : decide (at_ < s.size) = true := decide_eq_true hl
      go_enter Try.func41, Try.ntmps41
      go_wp2_with fail
      refine wp_region_near (by kernel_rfl) (by kernel_rfl) ?_
      intro hs
      repeat (go_big_quiet_step (fail))
      refine wpQuiet_nil ?_
      clear hs
      intro w1 hb1
      go_wp2_with fail
      go_ret
      exact Ret.mk rfl (by repeat (first | with_reducible exact Below.refl _ _ | (with_reducible refine Below.al ?_) | (with_reducible refine Below.drew ?_) | (with_reducible refine Below.set ?_ (by first | (simp; done) | omega | (simp; omega))) | (with_reducible refine Below.thru ?_ (by assumption)) | (with_reducible refine Below.chg ?_ (by assumption) (by first | (simp; done) | omega | (simp; omega)))))
    · rw [show doneF s at_ 0 = 0 by simp [doneF, hl]]
      have hd : decide (at_ < s.size) = false := decide_eq_false hl
      go_enter Try.func41, Try.ntmps41
      go_wp2_with fail
      refine wp_region_near (by kernel_rfl) (by kernel_rfl) ?_
      intro hs
      repeat (go_big_quiet_step (fail))
      refine wpQuiet_nil ?_
      clear hs
      intro w1 hb1
      obtain ⟨c1, f1⟩ := Below.blk hb1 (b := c) (by first | (simp; done) | omega | (simp; omega))
      go_wp2_with fail
      go_ret
      exact Ret.mk rfl (by repeat (first | with_reducible exact Below.refl _ _ | (with_reducible refine Below.al ?_) | (with_reducible refine Below.drew ?_) | (with_reducible refine Below.set ?_ (by first | (simp; done) | omega | (simp; omega))) | (with_reducible refine Below.thru ?_ (by assumption)) | (with_reducible refine Below.chg ?_ (by assumption) (by first | (simp; done) | omega | (simp; omega)))))
  · rw [show doneF s at_ fell = fell by simp [doneF, hf]]
    have hne : (fell == 0) = false := by simpa using hf
    go_enter Try.func41, Try.ntmps41
    go_wp2_with fail
    refine wp_region_near (by kernel_rfl) (by kernel_rfl) ?_
    intro hs
    repeat (go_big_quiet_step (fail))
    refine wpQuiet_nil ?_
    clear hs
    intro w1 hb1
    obtain ⟨c1, f1⟩ := Below.blk hb1 (b := c) (by first | (simp; done) | omega | (simp; omega))
    go_wp2_with fail
    go_ret
    exact Ret.mk rfl (by repeat (first | with_reducible exact Below.refl _ _ | (with_reducible refine Below.al ?_) | (with_reducible refine Below.drew ?_) | (with_reducible refine Below.set ?_ (by first | (simp; done) | omega | (simp; omega))) | (with_reducible refine Below.thru ?_ (by assumption)) | (with_reducible refine Below.chg ?_ (by assumption) (by first | (simp; done) | omega | (simp; omega)))))


theorem rnum_any (c : Nat) (s : ByteArray) (at_ : Nat) (fell n : Int) (w : World) (hB : Box w c (cut s at_ fell)) (hok : okCut s at_ fell) (hn : -9223372036854775808 ≤ n ∧ n ≤ 9223372036854775807) :
    Calls Try.prog 39 #[.pointer (some ⟨c, 0, none⟩), .int .i64 n] w (RetC w c (.int .i64 (numV s at_ fell n)) (cut s (numA s at_ fell n) (numF s at_ fell n))) := by
  have HB := Lib.hid hB
  have hok' := hok
  obtain ⟨h0, h1, h2, h3⟩ := hok
  obtain ⟨zB, cB, fB⟩ := hB
  unfold cut at cB
  have hem : (0 : Int) = wrap64 (ofB ByteArray.empty.data.toList) := (IntWalk.wrap64_in 0 (by omega)).symm
  by_cases hf : fell = 0
  · subst hf
    by_cases hg : 1 ≤ n ∧ n ≤ 7
    · obtain ⟨hn1, hn7⟩ := hg
      have hb : bad n = false := by unfold bad; simp; omega
      have hneg : decide (n < 0) = false := decide_eq_false (by omega)
      have e1 : numV s at_ 0 n = wrap64 (ofB (bytesV s at_ 0 n).data.toList) := by
        unfold numV bytesV
        rw [hb, hneg]
        split
        · rfl
        · exact hem
      have e2 : numA s at_ 0 n = bytesA s at_ 0 n := by unfold numA bytesA; rw [hb, hneg]
      have e3 : numF s at_ 0 n = bytesF s at_ 0 n := by unfold numF bytesF; rw [hb, hneg]
      rw [e1, e2, e3]
      have hsz : (bytesV s at_ 0 n).size ≤ 900000000 := by
        unfold bytesV
        split
        · simp only [ByteArray.size_extract]; omega
        · simp
      clear e1 e2 e3
      have hq1 : decide (n < 1) = false := decide_eq_false (by omega)
      have hq2 : decide (7 < n) = false := decide_eq_false (by omega)
      replace hb := Lib.hid hb; replace hneg := Lib.hid hneg; replace hem := Lib.hid hem
      go_enter Try.func39, Try.ntmps39
      go_wp2_with fail
      refine Calls.mono (rbytes_any c s at_ 0 n _ HB.out hok' hn) ?_
      rintro e w2 ⟨rfl, hg2, hB2⟩
      have z2 := World.grownBy.size hg2; try simp only [World.size_alloc, World.size_setCell, World.size_drew] at z2
      have HB2 := Lib.hid hB2
      obtain ⟨z2_c, c2_c, f2_c⟩ := hB2
      go_wp2_with fail
      refine Calls.mono (of_ref _ _ hsz) ?_
      rintro e w3 ⟨rfl, hb3⟩
      have z3 := Below.size hb3; try simp only [World.size_alloc, World.size_setCell, World.size_drew] at z3
      obtain ⟨c3_0, f3_0⟩ := Below.blk hb3 (b := c) (by first | (simp; done) | omega | (simp; omega))
      have z3_0 : c < w3.heap.size := (by first | (simp; done) | omega | (simp; omega))
      go_wp2_with fail
      go_ret
      exact RetC.mk rfl (by repeat (first | with_reducible exact grown_refl _ _ | (with_reducible refine grown_al ?_) | (with_reducible refine grown_drew ?_) | (with_reducible refine grown_set ?_ (by first | (left; rfl) | (right; first | omega | (simp; omega)))) | (with_reducible refine grown_below ?_ (by assumption)) | (with_reducible refine grown_trans ?_ (by assumption)))) (by (try rw [show ((0 : Nat) : Int) = 0 from rfl]); repeat (first | (with_reducible exact Hid.out HB2) | (with_reducible refine Box.below ?_ (by assumption)) | (with_reducible refine Box.drew ?_) | (with_reducible refine Box.new_at (by first | rfl | (simp; done) | omega)) | (with_reducible refine Box.al ?_) | (with_reducible apply Box.set0) | (with_reducible apply Box.set1) | (with_reducible apply Box.set2) | (with_reducible apply Box.set3) | (with_reducible apply Box.set4) | (with_reducible apply Box.set5) | (with_reducible apply Box.set6) | (with_reducible apply Box.set7) | (with_reducible apply Box.set8) | (with_reducible refine Box.oth ?_ (by first | (simp; done) | omega | (simp; omega))) | (with_reducible refine Box.chg ?_ (by assumption) (by first | (simp; done) | omega | (simp; omega)))))
    · have hb : bad n = true := by unfold bad; simp; omega
      have e1 : numV s at_ 0 n = 0 := by simp [numV, takeF, hb]
      have e2 : numA s at_ 0 n = at_ := by simp [numA, takeF, hb]
      have e3 : numF s at_ 0 n = 3 := by simp [numF, takeF, hb]
      rw [e1, e2, e3]
      clear e1 e2 e3
      have b1 : bytesV s at_ 3 n = ByteArray.empty := by simp [bytesV, takeF]
      have b2 : bytesA s at_ 3 n = at_ := by simp [bytesA, takeF]
      have b3 : bytesF s at_ 3 n = 3 := by simp [bytesF, takeF]
      have ok3 : okCut s at_ 3 := ⟨h0, h1, by omega, by omega⟩
      by_cases hn1 : n < 1
      · have hq1 : decide (n < 1) = true := decide_eq_true hn1
        replace b1 := Lib.hid b1; replace b2 := Lib.hid b2; replace b3 := Lib.hid b3; replace hb := Lib.hid hb; replace hem := Lib.hid hem
        go_enter Try.func39, Try.ntmps39
        go_wp2_with fail
        refine Calls.mono (rbytes_at c s at_ 3 n _ (HB.out.set 2 (.int .i64 3) (by simp)) ok3 hn b1.out b2.out b3.out) ?_
        rintro e w2 ⟨rfl, hg2, hB2⟩
        have z2 := World.grownBy.size hg2; try simp only [World.size_alloc, World.size_setCell, World.size_drew] at z2
        have HB2 := Lib.hid hB2
        obtain ⟨z2_c, c2_c, f2_c⟩ := hB2
        go_wp2_with fail
        refine Calls.mono (of_ref _ _ (by simp)) ?_
        rintro e w3 ⟨rfl, hb3⟩
        have z3 := Below.size hb3; try simp only [World.size_alloc, World.size_setCell, World.size_drew] at z3
        obtain ⟨c3_0, f3_0⟩ := Below.blk hb3 (b := c) (by first | (simp; done) | omega | (simp; omega))
        have z3_0 : c < w3.heap.size := (by first | (simp; done) | omega | (simp; omega))
        go_wp2_with fail
        go_ret
        exact RetC.mk (congrArg (Value.int .i64) hem.out.symm) (by repeat (first | with_reducible exact grown_refl _ _ | (with_reducible refine grown_al ?_) | (with_reducible refine grown_drew ?_) | (with_reducible refine grown_set ?_ (by first | (left; rfl) | (right; first | omega | (simp; omega)))) | (with_reducible refine grown_below ?_ (by assumption)) | (with_reducible refine grown_trans ?_ (by assumption)))) (by (try rw [show ((0 : Nat) : Int) = 0 from rfl]); repeat (first | (with_reducible exact Hid.out HB2) | (with_reducible refine Box.below ?_ (by assumption)) | (with_reducible refine Box.drew ?_) | (with_reducible refine Box.new_at (by first | rfl | (simp; done) | omega)) | (with_reducible refine Box.al ?_) | (with_reducible apply Box.set0) | (with_reducible apply Box.set1) | (with_reducible apply Box.set2) | (with_reducible apply Box.set3) | (with_reducible apply Box.set4) | (with_reducible apply Box.set5) | (with_reducible apply Box.set6) | (with_reducible apply Box.set7) | (with_reducible apply Box.set8) | (with_reducible refine Box.oth ?_ (by first | (simp; done) | omega | (simp; omega))) | (with_reducible refine Box.chg ?_ (by assumption) (by first | (simp; done) | omega | (simp; omega)))))
      · have hq1 : decide (n < 1) = false := decide_eq_false hn1
        have hq2 : decide (7 < n) = true := decide_eq_true (by omega)
        replace b1 := Lib.hid b1; replace b2 := Lib.hid b2; replace b3 := Lib.hid b3; replace hb := Lib.hid hb; replace hem := Lib.hid hem
        go_enter Try.func39, Try.ntmps39
        go_wp2_with fail
        refine Calls.mono (rbytes_at c s at_ 3 n _ (HB.out.set 2 (.int .i64 3) (by simp)) ok3 hn b1.out b2.out b3.out) ?_
        rintro e w2 ⟨rfl, hg2, hB2⟩
        have z2 := World.grownBy.size hg2; try simp only [World.size_alloc, World.size_setCell, World.size_drew] at z2
        have HB2 := Lib.hid hB2
        obtain ⟨z2_c, c2_c, f2_c⟩ := hB2
        go_wp2_with fail
        refine Calls.mono (of_ref _ _ (by simp)) ?_
        rintro e w3 ⟨rfl, hb3⟩
        have z3 := Below.size hb3; try simp only [World.size_alloc, World.size_setCell, World.size_drew] at z3
        obtain ⟨c3_0, f3_0⟩ := Below.blk hb3 (b := c) (by first | (simp; done) | omega | (simp; omega))
        have z3_0 : c < w3.heap.size := (by first | (simp; done) | omega | (simp; omega))
        go_wp2_with fail
        go_ret
        exact RetC.mk (congrArg (Value.int .i64) hem.out.symm) (by repeat (first | with_reducible exact grown_refl _ _ | (with_reducible refine grown_al ?_) | (with_reducible refine grown_drew ?_) | (with_reducible refine grown_set ?_ (by first | (left; rfl) | (right; first | omega | (simp; omega)))) | (with_reducible refine grown_below ?_ (by assumption)) | (with_reducible refine grown_trans ?_ (by assumption)))) (by (try rw [show ((0 : Nat) : Int) = 0 from rfl]); repeat (first | (with_reducible exact Hid.out HB2) | (with_reducible refine Box.below ?_ (by assumption)) | (with_reducible refine Box.drew ?_) | (with_reducible refine Box.new_at (by first | rfl | (simp; done) | omega)) | (with_reducible refine Box.al ?_) | (with_reducible apply Box.set0) | (with_reducible apply Box.set1) | (with_reducible apply Box.set2) | (with_reducible apply Box.set3) | (with_reducible apply Box.set4) | (with_reducible apply Box.set5) | (with_reducible apply Box.set6) | (with_reducible apply Box.set7) | (with_reducible apply Box.set8) | (with_reducible refine Box.oth ?_ (by first | (simp; done) | omega | (simp; omega))) | (with_reducible refine Box.chg ?_ (by assumption) (by first | (simp; done) | omega | (simp; omega)))))
  · have e1 : numV s at_ fell n = 0 := by simp [numV, takeF, hf]
    have e2 : numA s at_ fell n = at_ := by simp [numA, takeF, hf]
    have e3 : numF s at_ fell n = fell := by simp [numF, takeF, hf]
    rw [e1, e2, e3]
    clear e1 e2 e3
    have b1 : bytesV s at_ fell n = ByteArray.empty := by simp [bytesV, takeF, hf]
    have b2 : bytesA s at_ fell n = at_ := by simp [bytesA, takeF, hf]
    have b3 : bytesF s at_ fell n = fell := by simp [bytesF, takeF, hf]
    have hne : (fell == 0) = false := by simpa using hf
    replace b1 := Lib.hid b1; replace b2 := Lib.hid b2; replace b3 := Lib.hid b3; replace hem := Lib.hid hem
    go_enter Try.func39, Try.ntmps39
    go_wp2_with fail
    refine Calls.mono (rbytes_at c s at_ fell n _ HB.out hok' hn b1.out b2.out b3.out) ?_
    rintro e w2 ⟨rfl, hg2, hB2⟩
    have z2 := World.grownBy.size hg2; try simp only [World.size_alloc, World.size_setCell, World.size_drew] at z2
    have HB2 := Lib.hid hB2
    obtain ⟨z2_c, c2_c, f2_c⟩ := hB2
    go_wp2_with fail
    refine Calls.mono (of_ref _ _ (by simp)) ?_
    rintro e w3 ⟨rfl, hb3⟩
    have z3 := Below.size hb3; try simp only [World.size_alloc, World.size_setCell, World.size_drew] at z3
    obtain ⟨c3_0, f3_0⟩ := Below.blk hb3 (b := c) (by first | (simp; done) | omega | (simp; omega))
    have z3_0 : c < w3.heap.size := (by first | (simp; done) | omega | (simp; omega))
    go_wp2_with fail
    go_ret
    exact RetC.mk (congrArg (Value.int .i64) hem.out.symm) (by repeat (first | with_reducible exact grown_refl _ _ | (with_reducible refine grown_al ?_) | (with_reducible refine grown_drew ?_) | (with_reducible refine grown_set ?_ (by first | (left; rfl) | (right; first | omega | (simp; omega)))) | (with_reducible refine grown_below ?_ (by assumption)) | (with_reducible refine grown_trans ?_ (by assumption)))) (by (try rw [show ((0 : Nat) : Int) = 0 from rfl]); repeat (first | (with_reducible exact Hid.out HB2) | (with_reducible refine Box.below ?_ (by assumption)) | (with_reducible refine Box.drew ?_) | (with_reducible refine Box.new_at (by first | rfl | (simp; done) | omega)) | (with_reducible refine Box.al ?_) | (with_reducible apply Box.set0) | (with_reducible apply Box.set1) | (with_reducible apply Box.set2) | (with_reducible apply Box.set3) | (with_reducible apply Box.set4) | (with_reducible apply Box.set5) | (with_reducible apply Box.set6) | (with_reducible apply Box.set7) | (with_reducible apply Box.set8) | (with_reducible refine Box.oth ?_ (by first | (simp; done) | omega | (simp; omega))) | (with_reducible refine Box.chg ?_ (by assumption) (by first | (simp; done) | omega | (simp; omega)))))
end Go.Proofs.Ytpajedpkdfacoaa.Octets
