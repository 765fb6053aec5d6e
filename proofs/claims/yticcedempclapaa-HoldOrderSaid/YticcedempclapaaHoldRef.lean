/- The walk of the document's For. -/
import Derived.Test.YticcedempclapaaHoldFor
namespace Go.Proofs.Yticcedempclapaa.Hold
open Go Go.RowKit Go.Proofs.Yticcedempclapaa

theorem rfor_any (mode hold own : Int) (l : List Int) (n : Nat) (hl : l.length = n) (hn : n ≤ maxLen) (a : Option Addr) (cap : Nat) (w : World) (h : Rd w a (i64s l)) :
    Calls Try.prog 50 #[.agg #[.int .i64 mode, .int .i64 hold], .int .i64 own, .slice a n cap] w (Ret w (.int .i64 (forF mode hold own l))) := by
  obtain ⟨c0, c1⟩ := clamp60 hold
  obtain ⟨o0, o1⟩ := clamp_bd own
  obtain ⟨m0, m1⟩ := most_bd l
  obtain ⟨p0, p1⟩ := apart_bd l
  have H := Lib.hid h
  have HL := Lib.hid hl
  clear h hl
  by_cases e0 : mode = 0
  · subst e0
    have hf : forF 0 hold own l = min (clamp hold 60) 60 := by simp [forF, gapF]
    replace hf := Lib.hid hf
    go_enter Try.func50, Try.ntmps50
    go_wp2_with fail
    refine Calls.mono (rheld_any _ _ (by omega) _) ?_
    rintro e w1 ⟨rfl, hb1⟩
    have z1 := Below.size hb1; try simp only [World.size_alloc, World.size_setCell, World.size_drew] at z1
    obtain ⟨c1_0, f1_0⟩ := Below.blk hb1 (b := w.heap.size) (by first | (simp; done) | omega | (simp; omega))
    have z1_0 : w.heap.size < w1.heap.size := (by first | (simp; done) | omega | (simp; omega))
    go_wp2_with fail
    refine Calls.mono (rheld_any _ _ (by omega) _) ?_
    rintro e w9 ⟨rfl, hb9⟩
    have z9 := Below.size hb9; try simp only [World.size_alloc, World.size_setCell, World.size_drew] at z9
    go_wp2_with fail
    go_ret
    exact Ret.mk (congrArg (Value.int .i64) (by rw [hf.out]; unfold clamp at *; omega)) (by repeat (first | with_reducible exact Below.refl _ _ | (with_reducible refine Below.al ?_) | (with_reducible refine Below.drew ?_) | (with_reducible refine Below.set ?_ (by first | (simp; done) | omega | (simp; omega))) | (with_reducible refine Below.thru ?_ (by assumption)) | (with_reducible refine Below.chg ?_ (by assumption) (by first | (simp; done) | omega | (simp; omega)))))
  · by_cases e1 : mode = 1
    · subst e1
      have hf : forF 1 hold own l = min (clamp hold 60 + (apartF l + 1) / 2) 60 := by simp [forF, gapF]
      replace hf := Lib.hid hf
      go_enter Try.func50, Try.ntmps50
      go_wp2_with fail
      refine Calls.mono (rheld_any _ _ (by omega) _) ?_
      rintro e w1 ⟨rfl, hb1⟩
      have z1 := Below.size hb1; try simp only [World.size_alloc, World.size_setCell, World.size_drew] at z1
      obtain ⟨c1_0, f1_0⟩ := Below.blk hb1 (b := w.heap.size) (by first | (simp; done) | omega | (simp; omega))
      have z1_0 : w.heap.size < w1.heap.size := (by first | (simp; done) | omega | (simp; omega))
      have hR : Rd w1 a (i64s l) := H.out.below (by repeat (first | with_reducible exact Below.refl _ _ | (with_reducible refine Below.al ?_) | (with_reducible refine Below.drew ?_) | (with_reducible refine Below.set ?_ (by first | (simp; done) | omega | (simp; omega))) | (with_reducible refine Below.thru ?_ (by assumption)) | (with_reducible refine Below.chg ?_ (by assumption) (by first | (simp; done) | omega | (simp; omega)))))
      replace hR := Lib.hid hR
      go_wp2_with fail
      refine Calls.mono (rapart_any l n HL.out hn a cap _ hR.out) ?_
      rintro e w2 ⟨rfl, hb2⟩
      have z2 := Below.size hb2; try simp only [World.size_alloc, World.size_setCell, World.size_drew] at z2
      obtain ⟨c2_0, f2_0⟩ := Below.blk hb2 (b := w.heap.size) (by first | (simp; done) | omega | (simp; omega))
      have z2_0 : w.heap.size < w2.heap.size := (by first | (simp; done) | omega | (simp; omega))
      go_wp2_with fail
      refine Calls.mono (rheld_any _ _ (by omega) _) ?_
      rintro e w9 ⟨rfl, hb9⟩
      have z9 := Below.size hb9; try simp only [World.size_alloc, World.size_setCell, World.size_drew] at z9
      go_wp2_with fail
      go_ret
      exact Ret.mk (congrArg (Value.int .i64) (by rw [hf.out]; unfold clamp at *; omega)) (by repeat (first | with_reducible exact Below.refl _ _ | (with_reducible refine Below.al ?_) | (with_reducible refine Below.drew ?_) | (with_reducible refine Below.set ?_ (by first | (simp; done) | omega | (simp; omega))) | (with_reducible refine Below.thru ?_ (by assumption)) | (with_reducible refine Below.chg ?_ (by assumption) (by first | (simp; done) | omega | (simp; omega)))))
    · by_cases e2 : mode = 2
      · subst e2
        have hf : forF 2 hold own l = min (clamp hold 60 + (max (mostF l - clamp own 64) 0 + 1) / 2) 60 := by simp [forF, gapF]
        replace hf := Lib.hid hf
        go_enter Try.func50, Try.ntmps50
        go_wp2_with fail
        refine Calls.mono (rheld_any _ _ (by omega) _) ?_
        rintro e w1 ⟨rfl, hb1⟩
        have z1 := Below.size hb1; try simp only [World.size_alloc, World.size_setCell, World.size_drew] at z1
        obtain ⟨c1_0, f1_0⟩ := Below.blk hb1 (b := w.heap.size) (by first | (simp; done) | omega | (simp; omega))
        have z1_0 : w.heap.size < w1.heap.size := (by first | (simp; done) | omega | (simp; omega))
        have hR : Rd w1 a (i64s l) := H.out.below (by repeat (first | with_reducible exact Below.refl _ _ | (with_reducible refine Below.al ?_) | (with_reducible refine Below.drew ?_) | (with_reducible refine Below.set ?_ (by first | (simp; done) | omega | (simp; omega))) | (with_reducible refine Below.thru ?_ (by assumption)) | (with_reducible refine Below.chg ?_ (by assumption) (by first | (simp; done) | omega | (simp; omega)))))
        replace hR := Lib.hid hR
        by_cases hm : clamp own 64 < mostF l
        · have q : decide (clamp own 64 < mostF l) = true := decide_eq_true hm
          go_wp2_with fail
          refine Calls.mono (rmost_any l n HL.out hn a cap _ hR.out) ?_
          rintro e w2 ⟨rfl, hb2⟩
          have z2 := Below.size hb2; try simp only [World.size_alloc, World.size_setCell, World.size_drew] at z2
          obtain ⟨c2_0, f2_0⟩ := Below.blk hb2 (b := w.heap.size) (by first | (simp; done) | omega | (simp; omega))
          have z2_0 : w.heap.size < w2.heap.size := (by first | (simp; done) | omega | (simp; omega))
          go_wp2_with fail
          refine Calls.mono (rheld_any _ _ (by omega) _) ?_
          rintro e w3 ⟨rfl, hb3⟩
          have z3 := Below.size hb3; try simp only [World.size_alloc, World.size_setCell, World.size_drew] at z3
          obtain ⟨c3_0, f3_0⟩ := Below.blk hb3 (b := w.heap.size) (by first | (simp; done) | omega | (simp; omega))
          have z3_0 : w.heap.size < w3.heap.size := (by first | (simp; done) | omega | (simp; omega))
          go_wp2_with fail
          refine Calls.mono (rmost_any l n HL.out hn a cap _ ((hR.out.below hb2).below hb3)) ?_
          rintro e w4 ⟨rfl, hb4⟩
          have z4 := Below.size hb4; try simp only [World.size_alloc, World.size_setCell, World.size_drew] at z4
          obtain ⟨c4_0, f4_0⟩ := Below.blk hb4 (b := w.heap.size) (by first | (simp; done) | omega | (simp; omega))
          have z4_0 : w.heap.size < w4.heap.size := (by first | (simp; done) | omega | (simp; omega))
          go_wp2_with fail
          refine Calls.mono (rheld_any _ _ (by omega) _) ?_
          rintro e w5 ⟨rfl, hb5⟩
          have z5 := Below.size hb5; try simp only [World.size_alloc, World.size_setCell, World.size_drew] at z5
          obtain ⟨c5_0, f5_0⟩ := Below.blk hb5 (b := w.heap.size) (by first | (simp; done) | omega | (simp; omega))
          have z5_0 : w.heap.size < w5.heap.size := (by first | (simp; done) | omega | (simp; omega))
          go_wp2_with fail
          refine Calls.mono (rheld_any _ _ (by omega) _) ?_
          rintro e w9 ⟨rfl, hb9⟩
          have z9 := Below.size hb9; try simp only [World.size_alloc, World.size_setCell, World.size_drew] at z9
          go_wp2_with fail
          go_ret
          exact Ret.mk (congrArg (Value.int .i64) (by rw [hf.out]; unfold clamp at *; omega)) (by repeat (first | with_reducible exact Below.refl _ _ | (with_reducible refine Below.al ?_) | (with_reducible refine Below.drew ?_) | (with_reducible refine Below.set ?_ (by first | (simp; done) | omega | (simp; omega))) | (with_reducible refine Below.thru ?_ (by assumption)) | (with_reducible refine Below.chg ?_ (by assumption) (by first | (simp; done) | omega | (simp; omega)))))
        · have q : decide (clamp own 64 < mostF l) = false := decide_eq_false hm
          go_wp2_with fail
          refine Calls.mono (rmost_any l n HL.out hn a cap _ hR.out) ?_
          rintro e w2 ⟨rfl, hb2⟩
          have z2 := Below.size hb2; try simp only [World.size_alloc, World.size_setCell, World.size_drew] at z2
          obtain ⟨c2_0, f2_0⟩ := Below.blk hb2 (b := w.heap.size) (by first | (simp; done) | omega | (simp; omega))
          have z2_0 : w.heap.size < w2.heap.size := (by first | (simp; done) | omega | (simp; omega))
          go_wp2_with fail
          refine Calls.mono (rheld_any _ _ (by omega) _) ?_
          rintro e w3 ⟨rfl, hb3⟩
          have z3 := Below.size hb3; try simp only [World.size_alloc, World.size_setCell, World.size_drew] at z3
          obtain ⟨c3_0, f3_0⟩ := Below.blk hb3 (b := w.heap.size) (by first | (simp; done) | omega | (simp; omega))
          have z3_0 : w.heap.size < w3.heap.size := (by first | (simp; done) | omega | (simp; omega))
          go_wp2_with fail
          refine Calls.mono (rheld_any _ _ (by omega) _) ?_
          rintro e w9 ⟨rfl, hb9⟩
          have z9 := Below.size hb9; try simp only [World.size_alloc, World.size_setCell, World.size_drew] at z9
          go_wp2_with fail
          go_ret
          exact Ret.mk (congrArg (Value.int .i64) (by rw [hf.out]; unfold clamp at *; omega)) (by repeat (first | with_reducible exact Below.refl _ _ | (with_reducible refine Below.al ?_) | (with_reducible refine Below.drew ?_) | (with_reducible refine Below.set ?_ (by first | (simp; done) | omega | (simp; omega))) | (with_reducible refine Below.thru ?_ (by assumption)) | (with_reducible refine Below.chg ?_ (by assumption) (by first | (simp; done) | omega | (simp; omega)))))
      · have hf : forF mode hold own l = 0 := by unfold forF; rw [if_pos (by omega)]
        rw [hf]
        have q1 : (mode == 1) = false := by simpa using e1
        have q2 : (mode == 2) = false := by simpa using e2
        by_cases hm : mode < 0
        · have q : decide (mode < 0) = true := decide_eq_true hm
          replace hf := Lib.hid hf
          go_enter Try.func50, Try.ntmps50
          go_wp2_with fail
          refine Calls.mono (rheld_any _ _ (by omega) _) ?_
          rintro e w1 ⟨rfl, hb1⟩
          have z1 := Below.size hb1; try simp only [World.size_alloc, World.size_setCell, World.size_drew] at z1
          obtain ⟨c1_0, f1_0⟩ := Below.blk hb1 (b := w.heap.size) (by first | (simp; done) | omega | (simp; omega))
          have z1_0 : w.heap.size < w1.heap.size := (by first | (simp; done) | omega | (simp; omega))
          go_wp2_with fail
          go_ret
          exact Ret.mk rfl (by repeat (first | with_reducible exact Below.refl _ _ | (with_reducible refine Below.al ?_) | (with_reducible refine Below.drew ?_) | (with_reducible refine Below.set ?_ (by first | (simp; done) | omega | (simp; omega))) | (with_reducible refine Below.thru ?_ (by assumption)) | (with_reducible refine Below.chg ?_ (by assumption) (by first | (simp; done) | omega | (simp; omega)))))
        · have q : decide (mode < 0) = false := decide_eq_false hm
          have q' : decide (2 < mode) = true := decide_eq_true (by omega)
          replace hf := Lib.hid hf
          go_enter Try.func50, Try.ntmps50
          go_wp2_with fail
          refine Calls.mono (rheld_any _ _ (by omega) _) ?_
          rintro e w1 ⟨rfl, hb1⟩
          have z1 := Below.size hb1; try simp only [World.size_alloc, World.size_setCell, World.size_drew] at z1
          obtain ⟨c1_0, f1_0⟩ := Below.blk hb1 (b := w.heap.size) (by first | (simp; done) | omega | (simp; omega))
          have z1_0 : w.heap.size < w1.heap.size := (by first | (simp; done) | omega | (simp; omega))
          go_wp2_with fail
          go_ret
          exact Ret.mk rfl (by repeat (first | with_reducible exact Below.refl _ _ | (with_reducible refine Below.al ?_) | (with_reducible refine Below.drew ?_) | (with_reducible refine Below.set ?_ (by first | (simp; done) | omega | (simp; omega))) | (with_reducible refine Below.thru ?_ (by assumption)) | (with_reducible refine Below.chg ?_ (by assumption) (by first | (simp; done) | omega | (simp; omega)))))

theorem works_law (w : World) : Calls Try.prog 45 #[] w (Ret w (.bool true)) := by
  go_enter Try.func45, Try.ntmps45
  go_wp2_with fail
  have h1 : Rd (w.alloc (.cells [Value.int .i64 10, .int .i64 31].toArray 3)) (some ⟨w.heap.size, 0, none⟩) (i64s [10, 31]) := .inr ⟨w.heap.size, 0, rfl, by simp, fun j u hu => by simpa [World.cell?_alloc_new, i64s] using hu⟩
  refine Calls.mono (for_any 2 2 10 [10, 31] 2 rfl (by decide) _ _ _ h1) ?_
  rintro e w1 ⟨rfl, hb1⟩
  have z1 := Below.size hb1; try simp only [World.size_alloc, World.size_setCell, World.size_drew] at z1
  rw [show forF 2 2 10 [10, 31] = 13 from by decide]
  go_wp2_with fail
  refine Calls.mono (for_any 0 7 0 [] 0 rfl (by decide) none 0 _ (Rd.nil _ _)) ?_
  rintro e w2 ⟨rfl, hb2⟩
  have z2 := Below.size hb2; try simp only [World.size_alloc, World.size_setCell, World.size_drew] at z2
  rw [show forF 0 7 0 [] = 7 from by decide]
  go_wp2_with fail
  have h2 : Rd (w2.alloc (.cells [Value.int .i64 5, .int .i64 9, .int .i64 7].toArray 3)) (some ⟨w2.heap.size, 0, none⟩) (i64s [5, 9, 7]) := .inr ⟨w2.heap.size, 0, rfl, by simp, fun j u hu => by simpa [World.cell?_alloc_new, i64s] using hu⟩
  refine Calls.mono (apart_any [5, 9, 7] 3 rfl (by decide) _ _ _ h2) ?_
  rintro e w3 ⟨rfl, hb3⟩
  have z3 := Below.size hb3; try simp only [World.size_alloc, World.size_setCell, World.size_drew] at z3
  rw [show apartF [5, 9, 7] = 4 from by decide]
  go_wp2_with fail
  refine Calls.mono (check_any 3 0 _) ?_
  rintro e w4 ⟨rfl, hb4⟩
  have z4 := Below.size hb4; try simp only [World.size_alloc, World.size_setCell, World.size_drew] at z4
  rw [show checkF 3 0 = 7 from by decide]
  go_wp2_with fail
  go_ret
  exact Ret.mk rfl (by repeat (first | with_reducible exact Below.refl _ _ | (with_reducible refine Below.al ?_) | (with_reducible refine Below.drew ?_) | (with_reducible refine Below.set ?_ (by first | (simp; done) | omega | (simp; omega))) | (with_reducible refine Below.thru ?_ (by assumption)) | (with_reducible refine Below.chg ?_ (by assumption) (by first | (simp; done) | omega | (simp; omega)))))
end Go.Proofs.Yticcedempclapaa.Hold
