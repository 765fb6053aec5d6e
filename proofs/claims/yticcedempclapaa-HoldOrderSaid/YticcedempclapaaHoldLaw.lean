/- The walks of the statements HoldTells and HoldBounds. -/
import Derived.Test.YticcedempclapaaHoldRef
namespace Go.Proofs.Yticcedempclapaa.Hold
open Go Go.RowKit Go.Proofs.Yticcedempclapaa
attribute [local irreducible] Calls

theorem check_at (mode hold : Int) (w : World) {v : Int} (h : checkF mode hold = v) : Calls Try.prog 46 #[.agg #[.int .i64 mode, .int .i64 hold]] w (Ret w (.int .i64 v)) := by
  subst h
  exact check_any mode hold w
theorem two_in {w : World} {a : Array Value} (h : Fits w (.cons 1 (.int .i64) (.cons 1 (.int .i64) .nil)) a.toList) : ∃ m n : Int, a = #[.int .i64 m, .int .i64 n] ∧ isI64 m ∧ isI64 n := by
  obtain ⟨m, n, e, hm, hn⟩ := fits_ints2 h
  exact ⟨m, n, Array.toList_inj.1 e, bounds_i64 hm, bounds_i64 hn⟩

set_option maxRecDepth 100000 in
set_option maxHeartbeats 1000000 in
theorem tells_walk (a0 : Array Value) (own : Int) (w1 : (Lit.int .i64 own).wf = true) (a : Option Addr) (n cap : Nat) (w : World) (h0 : Fits w (.cons 1 (.int .i64) (.cons 1 (.int .i64) .nil)) a0.toList) (h2 : Fits w (.slice 1 (.int .i64)) [.slice a n cap]) :
    Calls Try.prog 11 #[.agg a0, .int .i64 own, .slice a n cap] w (Ret w (.bool true)) := by
  obtain ⟨mode, hold, rfl, hm, hh⟩ := two_in h0
  obtain ⟨hn', _, l, hl, _, hR⟩ := ints_in h2
  have hn := hn'
  unfold maxLen at hn
  clear h0 h2
  have HL := Lib.hid hl
  clear hl
  have HR := Lib.hid hR
  clear hR
  go_enter Try.func11, Try.ntmps11
  go_wp2_with fail
  refine Calls.mono (works_law _) ?_
  rintro e w1 ⟨rfl, hb1⟩
  have z1 := Below.size hb1; try simp only [World.size_alloc, World.size_setCell, World.size_drew] at z1
  obtain ⟨c1_0, f1_0⟩ := Below.blk hb1 (b := w.heap.size) (by first | (simp; done) | omega | (simp; omega))
  have z1_0 : w.heap.size < w1.heap.size := (by first | (simp; done) | omega | (simp; omega))
  have hR1 : Rd w1 a (i64s l) := HR.out.below (by repeat (first | with_reducible exact Below.refl _ _ | (with_reducible refine Below.al ?_) | (with_reducible refine Below.drew ?_) | (with_reducible refine Below.set ?_ (by first | (simp; done) | omega | (simp; omega))) | (with_reducible refine Below.thru ?_ (by assumption)) | (with_reducible refine Below.chg ?_ (by assumption) (by first | (simp; done) | omega | (simp; omega)))))
  have NR := Lib.hid (fun t : Near w1.heap.size w1 => hR1.below t.near)
  clear hR1
  by_cases h200 : 200 < n
  · have q : decide ((200 : Int) < n) = true := decide_eq_true (by omega)
    go_wp2_with fail
    go_ret
    exact Ret.mk rfl (by repeat (first | with_reducible exact Below.refl _ _ | (with_reducible refine Below.al ?_) | (with_reducible refine Below.drew ?_) | (with_reducible refine Below.set ?_ (by first | (simp; done) | omega | (simp; omega))) | (with_reducible refine Below.thru ?_ (by assumption)) | (with_reducible refine Below.chg ?_ (by assumption) (by first | (simp; done) | omega | (simp; omega)))))
  · have q : decide ((200 : Int) < n) = false := decide_eq_false (by omega)
    go_wp2_with fail
    all_goals
      first
        | (have hc : checkF mode hold = 0 := by (unfold checkF; rw [if_neg (by omega), if_neg (by omega)]))
        | (have hc : checkF mode hold = 3 := by (unfold checkF; rw [if_neg (by omega), if_pos (by omega)]))
        | (have hc : checkF mode hold = 7 := by (unfold checkF; rw [if_pos (by omega)]))
      replace hc := Lib.hid hc
      refine wp_region_near (by kernel_rfl) (by kernel_rfl) ?_
      intro hs
      repeat (go_big_quiet_step ((first | (go_at_call 46; exact Calls.near (by simp) (check_at _ _ _ hc.out)) | (go_at_call 47; exact Calls.near (by simp) (apart_any l n HL.out hn' _ _ _ (NR.out _))) | (go_at_call 48; exact Calls.near (by simp) (rapart_any l n HL.out hn' _ _ _ (NR.out _))) | (go_at_call 49; exact Calls.near (by simp) (for_any _ _ _ l n HL.out hn' _ _ _ (NR.out _))) | (go_at_call 50; exact Calls.near (by simp) (rfor_any _ _ _ l n HL.out hn' _ _ _ (NR.out _))))))
      refine wpQuiet_nil ?_
      clear hs
      intro w2 hb2
      go_wp2_with fail
      go_ret
      exact Ret.mk rfl (by repeat (first | with_reducible exact Below.refl _ _ | (with_reducible refine Below.al ?_) | (with_reducible refine Below.drew ?_) | (with_reducible refine Below.set ?_ (by first | (simp; done) | omega | (simp; omega))) | (with_reducible refine Below.thru ?_ (by assumption)) | (with_reducible refine Below.chg ?_ (by assumption) (by first | (simp; done) | omega | (simp; omega)))))

theorem for_at (mode hold own : Int) (l : List Int) (n : Nat) (hl : l.length = n) (hn : n ≤ maxLen) (a : Option Addr) (cap : Nat) (w : World) (h : Rd w a (i64s l)) {v : Int} (e : forF mode hold own l = v) :
    Calls Try.prog 49 #[.agg #[.int .i64 mode, .int .i64 hold], .int .i64 own, .slice a n cap] w (Ret w (.int .i64 v)) := by
  subst e
  exact for_any mode hold own l n hl hn a cap w h
theorem for_bd (mode hold own : Int) (l : List Int) : 0 ≤ forF mode hold own l ∧ forF mode hold own l ≤ 60 := by
  have := clamp60 hold
  have := apart_bd l
  unfold forF gapF
  (repeat' split) <;> omega
theorem for_even (mode hold a b : Int) (l : List Int) (hm : mode = 2) (h : a ≤ b) : forF mode hold b l ≤ forF mode hold a l := by
  subst hm
  have : clamp a 64 ≤ clamp b 64 := by unfold clamp; omega
  have := clamp60 hold
  simp only [forF, gapF]
  (repeat' split) <;> omega
theorem for_far (mode hold own : Int) (l : List Int) (hm : mode = 2) : forF mode hold 64 l = forF 0 hold own [] := by
  subst hm
  have := most_bd l
  simp only [forF, gapF]
  have : clamp 64 64 = 64 := by decide
  (repeat' split) <;> omega

set_option maxRecDepth 100000 in
set_option maxHeartbeats 1000000 in
theorem bounds_walk (a0 : Array Value) (x : Int) (w1 : (Lit.int .i64 x).wf = true) (y : Int) (w2 : (Lit.int .i64 y).wf = true) (a : Option Addr) (n cap : Nat) (w : World) (h0 : Fits w (.cons 1 (.int .i64) (.cons 1 (.int .i64) .nil)) a0.toList) (h2 : Fits w (.slice 1 (.int .i64)) [.slice a n cap]) :
    Calls Try.prog 12 #[.agg a0, .int .i64 x, .int .i64 y, .slice a n cap] w (Ret w (.bool true)) := by
  obtain ⟨mode, hold, rfl, hm, hh⟩ := two_in h0
  obtain ⟨hn', _, l, hl, _, hR⟩ := ints_in h2
  have hn := hn'
  unfold maxLen at hn
  clear h0 h2
  have HL := Lib.hid hl
  clear hl
  have HR := Lib.hid hR
  clear hR
  have HE := Lib.hid (for_even mode hold x y l)
  have HF := Lib.hid (for_far mode hold x l)
  obtain ⟨b0, b1⟩ := for_bd mode hold x l
  go_enter Try.func12, Try.ntmps12
  go_wp2_with fail
  refine Calls.mono (works_law _) ?_
  rintro e w1 ⟨rfl, hb1⟩
  have z1 := Below.size hb1; try simp only [World.size_alloc, World.size_setCell, World.size_drew] at z1
  obtain ⟨c1_0, f1_0⟩ := Below.blk hb1 (b := w.heap.size) (by first | (simp; done) | omega | (simp; omega))
  have z1_0 : w.heap.size < w1.heap.size := (by first | (simp; done) | omega | (simp; omega))
  have hR1 : Rd w1 a (i64s l) := HR.out.below (by repeat (first | with_reducible exact Below.refl _ _ | (with_reducible refine Below.al ?_) | (with_reducible refine Below.drew ?_) | (with_reducible refine Below.set ?_ (by first | (simp; done) | omega | (simp; omega))) | (with_reducible refine Below.thru ?_ (by assumption)) | (with_reducible refine Below.chg ?_ (by assumption) (by first | (simp; done) | omega | (simp; omega)))))
  have NR := Lib.hid (fun t : Near w1.heap.size w1 => hR1.below t.near)
  have HR1 := Lib.hid hR1
  clear hR1
  by_cases h200 : 200 < n
  · have q : decide ((200 : Int) < n) = true := decide_eq_true (by omega)
    go_wp2_with fail
    go_ret
    exact Ret.mk rfl (by repeat (first | with_reducible exact Below.refl _ _ | (with_reducible refine Below.al ?_) | (with_reducible refine Below.drew ?_) | (with_reducible refine Below.set ?_ (by first | (simp; done) | omega | (simp; omega))) | (with_reducible refine Below.thru ?_ (by assumption)) | (with_reducible refine Below.chg ?_ (by assumption) (by first | (simp; done) | omega | (simp; omega)))))
  · have q : decide ((200 : Int) < n) = false := decide_eq_false (by omega)
    go_wp2_with fail
    refine wp_region_near (by kernel_rfl) (by kernel_rfl) ?_
    intro hs
    repeat (go_big_quiet_step ((go_at_call 49; exact Calls.near (by simp) (for_any _ _ _ l n HL.out hn' _ _ _ (NR.out _)))))
    refine wpQuiet_nil ?_
    clear hs
    intro w2 hb2
    obtain ⟨c2, f2⟩ := Below.blk hb2 (b := w.heap.size) (by first | (simp; done) | omega | (simp; omega))
    have z2 : w.heap.size < w2.heap.size := by have := hb2.size; omega
    have NR2 := Lib.hid (fun t : Near w2.heap.size w2 => (HR1.out.below hb2).below t.near)
    by_cases e2 : mode = 2
    · subst e2
      have e3 := HF.out rfl
      have q1 : decide (forF 2 hold x l < 0) = false := decide_eq_false (by omega)
      have q2 : decide (60 < forF 2 hold x l) = false := decide_eq_false (by omega)
      replace e3 := Lib.hid e3
      by_cases hxy : x ≤ y
      · have hle := HE.out rfl hxy
        have q3 : decide (x ≤ y) = true := decide_eq_true hxy
        have q4 : decide (forF 2 hold x l < forF 2 hold y l) = false := decide_eq_false (by omega)
        go_wp2_with fail
        refine wp_region_near (by kernel_rfl) (by kernel_rfl) ?_
        intro hs
        repeat (go_big_quiet_step ((first | (go_at_call 49; exact Calls.near (by simp) (for_at 2 hold 64 l n HL.out hn' _ _ _ (NR2.out _) e3.out)) | (go_at_call 49; exact Calls.near (by simp) (for_any 0 hold x [] 0 rfl (Nat.zero_le _) _ _ _ (Rd.nil _ _))))))
        refine wpQuiet_nil ?_
        clear hs
        intro w3 hb3
        go_wp2_with fail
        go_ret
        exact Ret.mk rfl (by repeat (first | with_reducible exact Below.refl _ _ | (with_reducible refine Below.al ?_) | (with_reducible refine Below.drew ?_) | (with_reducible refine Below.set ?_ (by first | (simp; done) | omega | (simp; omega))) | (with_reducible refine Below.thru ?_ (by assumption)) | (with_reducible refine Below.chg ?_ (by assumption) (by first | (simp; done) | omega | (simp; omega)))))
      · have q3 : decide (x ≤ y) = false := decide_eq_false hxy
        go_wp2_with fail
        refine wp_region_near (by kernel_rfl) (by kernel_rfl) ?_
        intro hs
        repeat (go_big_quiet_step ((first | (go_at_call 49; exact Calls.near (by simp) (for_at 2 hold 64 l n HL.out hn' _ _ _ (NR2.out _) e3.out)) | (go_at_call 49; exact Calls.near (by simp) (for_any 0 hold x [] 0 rfl (Nat.zero_le _) _ _ _ (Rd.nil _ _))))))
        refine wpQuiet_nil ?_
        clear hs
        intro w3 hb3
        go_wp2_with fail
        go_ret
        exact Ret.mk rfl (by repeat (first | with_reducible exact Below.refl _ _ | (with_reducible refine Below.al ?_) | (with_reducible refine Below.drew ?_) | (with_reducible refine Below.set ?_ (by first | (simp; done) | omega | (simp; omega))) | (with_reducible refine Below.thru ?_ (by assumption)) | (with_reducible refine Below.chg ?_ (by assumption) (by first | (simp; done) | omega | (simp; omega)))))
    · have q1 : decide (forF mode hold x l < 0) = false := decide_eq_false (by omega)
      have q2 : decide (60 < forF mode hold x l) = false := decide_eq_false (by omega)
      have q3 : (mode == 2) = false := by simpa using e2
      have q4 : (mode != 2) = true := by simpa using e2
      go_wp2_with fail
      refine wp_region_near (by kernel_rfl) (by kernel_rfl) ?_
      intro hs
      repeat (go_big_quiet_step (fail))
      refine wpQuiet_nil ?_
      clear hs
      intro w3 hb3
      go_wp2_with fail
      go_ret
      exact Ret.mk rfl (by repeat (first | with_reducible exact Below.refl _ _ | (with_reducible refine Below.al ?_) | (with_reducible refine Below.drew ?_) | (with_reducible refine Below.set ?_ (by first | (simp; done) | omega | (simp; omega))) | (with_reducible refine Below.thru ?_ (by assumption)) | (with_reducible refine Below.chg ?_ (by assumption) (by first | (simp; done) | omega | (simp; omega)))))
end Go.Proofs.Yticcedempclapaa.Hold
