
/- The walks of bytes that are read from the front on. -/
import Derived.Test.YtpajedpkdfacoaaOctetsOf
namespace Go.Proofs.Ytpajedpkdfacoaa.Octets
set_option linter.unusedSimpArgs false
set_option linter.unusedVariables false
open Go Go.RowKit Go.Proofs.Ytpajedpkdfacoaa

/-- What a read of n bytes fails with, if it does. -/
def takeF (s : ByteArray) (at_ : Nat) (fell n : Int) (wrong : Bool) : Int := if fell ≠ 0 then fell else if wrong then 3 else if (s.size : Int) - at_ < n then 1 else 0
def okCut (s : ByteArray) (at_ : Nat) (fell : Int) : Prop := at_ ≤ s.size ∧ s.size ≤ 900000000 ∧ 0 ≤ fell ∧ fell ≤ 100

/-- A cut's cells. -/
abbrev cut (s : ByteArray) (at_ : Nat) (fell : Int) : List Value := [.string s, .int .i64 at_, .int .i64 fell]

theorem take_any (c : Nat) (s : ByteArray) (at_ : Nat) (fell n : Int) (wrong : Bool) (w : World) (hB : Box w c (cut s at_ fell)) (hok : okCut s at_ fell) (hn : -9223372036854775808 ≤ n ∧ n ≤ 9223372036854775807) :
    Calls Try.prog 76 #[.pointer (some ⟨c, 0, none⟩), .int .i64 n, .bool wrong] w (RetC w c (.bool (decide (takeF s at_ fell n wrong = 0))) (cut s at_ (takeF s at_ fell n wrong))) := by
  obtain ⟨h0, h1, h2, h3⟩ := hok
  have HB := Lib.hid hB
  obtain ⟨zB, cB, fB⟩ := hB
  unfold cut at cB
  by_cases hf : fell = 0
  · subst hf
    cases wrong
    · by_cases hl : (s.size : Int) - at_ < n
      · rw [show takeF s at_ 0 n false = 1 by simp [takeF, hl]]
        go_enter Try.func76, Try.ntmps76
        go_wp2_with fail
        refine wp_region_near (by kernel_rfl) (by kernel_rfl) ?_
        intro hs
        repeat (go_big_quiet_step (fail))
        refine wpQuiet_nil ?_
        clear hs
        intro w1 hb1
        obtain ⟨c1, f1⟩ := Below.blk hb1 (b := c) (by first | (simp; done) | omega | (simp; omega))
        go_wp2_with fail
        go_ret
        exact RetC.mk rfl (by repeat (first | with_reducible exact grown_refl _ _ | (with_reducible refine grown_al ?_) | (with_reducible refine grown_drew ?_) | (with_reducible refine grown_set ?_ (by first | (left; rfl) | (right; first | omega | (simp; omega)))) | (with_reducible refine grown_below ?_ (by assumption)) | (with_reducible refine grown_trans ?_ (by assumption)))) (by (try rw [show ((0 : Nat) : Int) = 0 from rfl]); repeat (first | (with_reducible exact Hid.out HB) | (with_reducible refine Box.below ?_ (by assumption)) | (with_reducible refine Box.drew ?_) | (with_reducible refine Box.new_at (by first | rfl | (simp; done) | omega)) | (with_reducible refine Box.al ?_) | (with_reducible apply Box.set0) | (with_reducible apply Box.set1) | (with_reducible apply Box.set2) | (with_reducible apply Box.set3) | (with_reducible apply Box.set4) | (with_reducible apply Box.set5) | (with_reducible apply Box.set6) | (with_reducible apply Box.set7) | (with_reducible apply Box.set8) | (with_reducible refine Box.oth ?_ (by first | (simp; done) | omega | (simp; omega))) | (with_reducible refine Box.chg ?_ (by assumption) (by first | (simp; done) | omega | (simp; omega)))))
      · rw [show takeF s at_ 0 n false = 0 by simp [takeF, hl]]
        go_enter Try.func76, Try.ntmps76
        go_wp2_with fail
        refine wp_region_near (by kernel_rfl) (by kernel_rfl) ?_
        intro hs
        repeat (go_big_quiet_step (fail))
        refine wpQuiet_nil ?_
        clear hs
        intro w1 hb1
        obtain ⟨c1, f1⟩ := Below.blk hb1 (b := c) (by first | (simp; done) | omega | (simp; omega))
        go_wp2_with fail
        go_ret
        exact RetC.mk rfl (by repeat (first | with_reducible exact grown_refl _ _ | (with_reducible refine grown_al ?_) | (with_reducible refine grown_drew ?_) | (with_reducible refine grown_set ?_ (by first | (left; rfl) | (right; first | omega | (simp; omega)))) | (with_reducible refine grown_below ?_ (by assumption)) | (with_reducible refine grown_trans ?_ (by assumption)))) (by (try rw [show ((0 : Nat) : Int) = 0 from rfl]); repeat (first | (with_reducible exact Hid.out HB) | (with_reducible refine Box.below ?_ (by assumption)) | (with_reducible refine Box.drew ?_) | (with_reducible refine Box.new_at (by first | rfl | (simp; done) | omega)) | (with_reducible refine Box.al ?_) | (with_reducible apply Box.set0) | (with_reducible apply Box.set1) | (with_reducible apply Box.set2) | (with_reducible apply Box.set3) | (with_reducible apply Box.set4) | (with_reducible apply Box.set5) | (with_reducible apply Box.set6) | (with_reducible apply Box.set7) | (with_reducible apply Box.set8) | (with_reducible refine Box.oth ?_ (by first | (simp; done) | omega | (simp; omega))) | (with_reducible refine Box.chg ?_ (by assumption) (by first | (simp; done) | omega | (simp; omega)))))
    · rw [show takeF s at_ 0 n true = 3 by simp [takeF]]
      go_enter Try.func76, Try.ntmps76
      go_wp2_with fail
      go_ret
      exact RetC.mk rfl (by repeat (first | with_reducible exact grown_refl _ _ | (with_reducible refine grown_al ?_) | (with_reducible refine grown_drew ?_) | (with_reducible refine grown_set ?_ (by first | (left; rfl) | (right; first | omega | (simp; omega)))) | (with_reducible refine grown_below ?_ (by assumption)) | (with_reducible refine grown_trans ?_ (by assumption)))) (by (try rw [show ((0 : Nat) : Int) = 0 from rfl]); repeat (first | (with_reducible exact Hid.out HB) | (with_reducible refine Box.below ?_ (by assumption)) | (with_reducible refine Box.drew ?_) | (with_reducible refine Box.new_at (by first | rfl | (simp; done) | omega)) | (with_reducible refine Box.al ?_) | (with_reducible apply Box.set0) | (with_reducible apply Box.set1) | (with_reducible apply Box.set2) | (with_reducible apply Box.set3) | (with_reducible apply Box.set4) | (with_reducible apply Box.set5) | (with_reducible apply Box.set6) | (with_reducible apply Box.set7) | (with_reducible apply Box.set8) | (with_reducible refine Box.oth ?_ (by first | (simp; done) | omega | (simp; omega))) | (with_reducible refine Box.chg ?_ (by assumption) (by first | (simp; done) | omega | (simp; omega)))))
  · rw [show takeF s at_ fell n wrong = fell by simp [takeF, hf]]
    have hne : (fell != 0) = true := by simpa using hf
    have hd : decide (fell = 0) = false := decide_eq_false hf
    go_enter Try.func76, Try.ntmps76
    go_wp2_with fail
    go_ret
    exact RetC.mk (by simp [hf]) (by repeat (first | with_reducible exact grown_refl _ _ | (with_reducible refine grown_al ?_) | (with_reducible refine grown_drew ?_) | (with_reducible refine grown_set ?_ (by first | (left; rfl) | (right; first | omega | (simp; omega)))) | (with_reducible refine grown_below ?_ (by assumption)) | (with_reducible refine grown_trans ?_ (by assumption)))) (by (try rw [show ((0 : Nat) : Int) = 0 from rfl]); repeat (first | (with_reducible exact Hid.out HB) | (with_reducible refine Box.below ?_ (by assumption)) | (with_reducible refine Box.drew ?_) | (with_reducible refine Box.new_at (by first | rfl | (simp; done) | omega)) | (with_reducible refine Box.al ?_) | (with_reducible apply Box.set0) | (with_reducible apply Box.set1) | (with_reducible apply Box.set2) | (with_reducible apply Box.set3) | (with_reducible apply Box.set4) | (with_reducible apply Box.set5) | (with_reducible apply Box.set6) | (with_reducible apply Box.set7) | (with_reducible apply Box.set8) | (with_reducible refine Box.oth ?_ (by first | (simp; done) | omega | (simp; omega))) | (with_reducible refine Box.chg ?_ (by assumption) (by first | (simp; done) | omega | (simp; omega)))))

theorem take_nil (n : Int) (wrong : Bool) (w : World) : Calls Try.prog 76 #[.pointer none, .int .i64 n, .bool wrong] w (Ret w (.bool false)) := by
  go_enter Try.func76, Try.ntmps76
  go_wp2_with fail
  go_ret
  exact Ret.mk rfl (by repeat (first | with_reducible exact Below.refl _ _ | (with_reducible refine Below.al ?_) | (with_reducible refine Below.drew ?_) | (with_reducible refine Below.set ?_ (by first | (simp; done) | omega | (simp; omega))) | (with_reducible refine Below.thru ?_ (by assumption)) | (with_reducible refine Below.chg ?_ (by assumption) (by first | (simp; done) | omega | (simp; omega)))))

theorem left_any (c : Nat) (s : ByteArray) (at_ : Nat) (fell : Int) (w : World) (hB : Box w c (cut s at_ fell)) (hok : okCut s at_ fell) :
    Calls Try.prog 79 #[.pointer (some ⟨c, 0, none⟩)] w (Ret w (.int .i64 ((s.size : Int) - at_))) := by
  obtain ⟨h0, h1, h2, h3⟩ := hok
  obtain ⟨zB, cB, fB⟩ := hB
  unfold cut at cB
  go_enter Try.func79, Try.ntmps79
  go_wp2_with fail
  refine wp_region_near (by kernel_rfl) (by kernel_rfl) ?_
  intro hs
  repeat (go_big_quiet_step (fail))
  refine wpQuiet_nil ?_
  clear hs
  intro w1 hb1
  go_wp2_with fail
  go_ret
  exact Ret.mk rfl (by repeat (first | with_reducible exact Below.refl _ _ | (with_reducible refine Below.al ?_) | (with_reducible refine Below.drew ?_) | (with_reducible refine Below.set ?_ (by first | (simp; done) | omega | (simp; omega))) | (with_reducible refine Below.thru ?_ (by assumption)) | (with_reducible refine Below.chg ?_ (by assumption) (by first | (simp; done) | omega | (simp; omega)))))

theorem left_nil (w : World) : Calls Try.prog 79 #[.pointer none] w (Ret w (.int .i64 0)) := by
  go_enter Try.func79, Try.ntmps79
  go_wp2_with fail
  go_ret
  exact Ret.mk rfl (by repeat (first | with_reducible exact Below.refl _ _ | (with_reducible refine Below.al ?_) | (with_reducible refine Below.drew ?_) | (with_reducible refine Below.set ?_ (by first | (simp; done) | omega | (simp; omega))) | (with_reducible refine Below.thru ?_ (by assumption)) | (with_reducible refine Below.chg ?_ (by assumption) (by first | (simp; done) | omega | (simp; omega)))))

/-- What is told when all was read. -/
def doneF (s : ByteArray) (at_ : Nat) (fell : Int) : Int := if fell = 0 ∧ at_ < s.size then 2 else fell
theorem done_any (c : Nat) (s : ByteArray) (at_ : Nat) (fell : Int) (w : World) (hB : Box w c (cut s at_ fell)) (hok : okCut s at_ fell) :
    Calls Try.prog 36 #[.pointer (some ⟨c, 0, none⟩)] w (Ret w (.int .i64 (doneF s at_ fell))) := by
  have hok' := hok
  obtain ⟨h0, h1, h2, h3⟩ := hok
  have HB := Lib.hid hB
  obtain ⟨zB, cB, fB⟩ := hB
  unfold cut at cB
  by_cases hf : fell = 0
  · subst hf
    by_cases hl : at_ < s.size
    · rw [show doneF s at_ 0 = 2 by simp [doneF, hl]]
      have hd : decide ((0 : Int) < (s.size : Int) - at_) = true := decide_eq_true (by omega)
      go_enter Try.func36, Try.ntmps36
      go_wp2_with fail
      refine Calls.mono (left_any c s at_ 0 _ HB.out hok') ?_
      rintro e w1 ⟨rfl, hb1⟩
      have z1 := Below.size hb1; try simp only [World.size_alloc, World.size_setCell, World.size_drew] at z1
      obtain ⟨c1_0, f1_0⟩ := Below.blk hb1 (b := c) (by first | (simp; done) | omega | (simp; omega))
      have z1_0 : c < w1.heap.size := (by first | (simp; done) | omega | (simp; omega))
      go_wp2_with fail
      go_ret
      exact Ret.mk rfl (by repeat (first | with_reducible exact Below.refl _ _ | (with_reducible refine Below.al ?_) | (with_reducible refine Below.drew ?_) | (with_reducible refine Below.set ?_ (by first | (simp; done) | omega | (simp; omega))) | (with_reducible refine Below.thru ?_ (by assumption)) | (with_reducible refine Below.chg ?_ (by assumption) (by first | (simp; done) | omega | (simp; omega)))))
    · rw [show doneF s at_ 0 = 0 by simp [doneF, hl]]
      have hd : decide ((0 : Int) < (s.size : Int) - at_) = false := decide_eq_false (by omega)
      go_enter Try.func36, Try.ntmps36
      go_wp2_with fail
      refine Calls.mono (left_any c s at_ 0 _ HB.out hok') ?_
      rintro e w1 ⟨rfl, hb1⟩
      have z1 := Below.size hb1; try simp only [World.size_alloc, World.size_setCell, World.size_drew] at z1
      obtain ⟨c1_0, f1_0⟩ := Below.blk hb1 (b := c) (by first | (simp; done) | omega | (simp; omega))
      have z1_0 : c < w1.heap.size := (by first | (simp; done) | omega | (simp; omega))
      go_wp2_with fail
      go_ret
      exact Ret.mk rfl (by repeat (first | with_reducible exact Below.refl _ _ | (with_reducible refine Below.al ?_) | (with_reducible refine Below.drew ?_) | (with_reducible refine Below.set ?_ (by first | (simp; done) | omega | (simp; omega))) | (with_reducible refine Below.thru ?_ (by assumption)) | (with_reducible refine Below.chg ?_ (by assumption) (by first | (simp; done) | omega | (simp; omega)))))
  · rw [show doneF s at_ fell = fell by simp [doneF, hf]]
    have hne : (fell == 0) = false := by simpa using hf
    go_enter Try.func36, Try.ntmps36
    go_wp2_with fail
    go_ret
    exact Ret.mk rfl (by repeat (first | with_reducible exact Below.refl _ _ | (with_reducible refine Below.al ?_) | (with_reducible refine Below.drew ?_) | (with_reducible refine Below.set ?_ (by first | (simp; done) | omega | (simp; omega))) | (with_reducible refine Below.thru ?_ (by assumption)) | (with_reducible refine Below.chg ?_ (by assumption) (by first | (simp; done) | omega | (simp; omega)))))
theorem done_nil (w : World) : Calls Try.prog 36 #[.pointer none] w (Ret w (.int .i64 10)) := by
  go_enter Try.func36, Try.ntmps36
  go_wp2_with fail
  go_ret
  exact Ret.mk rfl (by repeat (first | with_reducible exact Below.refl _ _ | (with_reducible refine Below.al ?_) | (with_reducible refine Below.drew ?_) | (with_reducible refine Below.set ?_ (by first | (simp; done) | omega | (simp; omega))) | (with_reducible refine Below.thru ?_ (by assumption)) | (with_reducible refine Below.chg ?_ (by assumption) (by first | (simp; done) | omega | (simp; omega)))))

def bytesV (s : ByteArray) (at_ : Nat) (fell n : Int) : ByteArray := if takeF s at_ fell n (decide (n < 0)) = 0 then s.extract at_ (at_ + n.toNat) else ByteArray.empty
def bytesA (s : ByteArray) (at_ : Nat) (fell n : Int) : Nat := if takeF s at_ fell n (decide (n < 0)) = 0 then at_ + n.toNat else at_
def bytesF (s : ByteArray) (at_ : Nat) (fell n : Int) : Int := takeF s at_ fell n (decide (n < 0))
theorem bytes_ok (s : ByteArray) (at_ : Nat) (fell n : Int) (h : okCut s at_ fell) : okCut s (bytesA s at_ fell n) (bytesF s at_ fell n) := by
  obtain ⟨h0, h1, h2, h3⟩ := h
  have hx : takeF s at_ fell n (decide (n < 0)) = 0 → fell = 0 ∧ 0 ≤ n ∧ n ≤ (s.size : Int) - at_ := by
    unfold takeF
    intro h
    split at h
    · omega
    · split at h
      · omega
      · split at h
        · omega
        · rename_i a b c; simp at b; omega
  have hy : 0 ≤ takeF s at_ fell n (decide (n < 0)) ∧ takeF s at_ fell n (decide (n < 0)) ≤ 100 := by
    unfold takeF
    (repeat' split) <;> omega
  unfold okCut bytesA bytesF
  split
  · rename_i h; have := hx h; omega
  · omega
end Go.Proofs.Ytpajedpkdfacoaa.Octets
