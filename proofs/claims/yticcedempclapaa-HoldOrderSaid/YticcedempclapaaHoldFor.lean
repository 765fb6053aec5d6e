/- The walks of the waits: For and Check, and the document's. -/
import Derived.Test.YticcedempclapaaHold
namespace Go.Proofs.Yticcedempclapaa.Hold
open Go Go.RowKit Go.Proofs.Yticcedempclapaa

theorem rmost_any (l : List Int) (n : Nat) (hl : l.length = n) (hn : n ≤ maxLen) (a : Option Addr) (cap : Nat) (w : World) (h : Rd w a (i64s l)) :
    Calls Try.prog 56 #[.slice a n cap] w (Ret w (.int .i64 (mostF l))) := by
  unfold maxLen at hn
  have H := Lib.hid h
  have HL := Lib.hid hl
  clear h hl
  go_enter Try.func56, Try.ntmps56
  go_wp2_with fail
  go_loopg [3, 4] n (fun g m i wr => ∃ k : Nat, k ≤ n ∧ g = n - k ∧ i = .int .i64 k ∧ m = .int .i64 ((l.take k).foldl (fun m x => max m (clamp x 64)) 0) ∧ Below w.heap.size w wr)
  case atStart => exact ⟨0, by omega, by omega, rfl, rfl, Below.refl _ _⟩
  case round =>
    obtain ⟨k, hk, hg, rfl, rfl, hbw⟩ := hrel
    by_cases hlt : k < n
    · have hkl : k < l.length := by have := HL.out; omega
      have hf := foldl_take (fun m x => max m (clamp x 64)) 0 l k hkl
      obtain ⟨b, off, rfl, hb, hc⟩ := H.out.cons (by intro e; have := congrArg List.length e; simp [i64s] at this; subst this; simp at hkl)
      have hcell : wr.cell? ⟨b, off + k, none⟩ = some (.int .i64 l[k]) := ((Below.blk hbw hb).1 _).trans (hc k _ (i64s_at hkl))
      clear hc
      generalize l[k] = y at *
      replace hf := Lib.hid hf
      go_wp2_with fail
      refine Calls.mono (rheld_any _ _ (by omega) _) ?_
      rintro e w5 ⟨rfl, hb5⟩
      have z5 := Below.size hb5; try simp only [World.size_alloc, World.size_setCell, World.size_drew] at z5
      go_wp2_with fail
      go_roundg (n - (k + 1))
      case measure => omega
      case rel => exact ⟨k + 1, by omega, rfl, by go_num, by rw [hf.out], (by repeat (first | with_reducible exact Below.refl _ _ | (with_reducible refine Below.al ?_) | (with_reducible refine Below.drew ?_) | (with_reducible refine Below.set ?_ (by first | (simp; done) | omega | (simp; omega))) | (with_reducible refine Below.thru ?_ (by assumption)) | (with_reducible refine Below.chg ?_ (by assumption) (by first | (simp; done) | omega | (simp; omega)))))⟩
    · obtain rfl : k = n := by omega
      have ht : (l.take k).foldl (fun m x => max m (clamp x 64)) 0 = mostF l := by rw [List.take_of_length_le (by have := HL.out; omega)]; rfl
      replace ht := Lib.hid ht
      go_wp2_with fail
      go_ret
      exact Ret.mk (by rw [← ht.out]; rfl) (by repeat (first | with_reducible exact Below.refl _ _ | (with_reducible refine Below.al ?_) | (with_reducible refine Below.drew ?_) | (with_reducible refine Below.set ?_ (by first | (simp; done) | omega | (simp; omega))) | (with_reducible refine Below.thru ?_ (by assumption)) | (with_reducible refine Below.chg ?_ (by assumption) (by first | (simp; done) | omega | (simp; omega)))))

theorem rapart_any (l : List Int) (n : Nat) (hl : l.length = n) (hn : n ≤ maxLen) (a : Option Addr) (cap : Nat) (w : World) (h : Rd w a (i64s l)) :
    Calls Try.prog 48 #[.slice a n cap] w (Ret w (.int .i64 (apartF l))) := by
  obtain ⟨m0, m1⟩ := most_bd l
  obtain ⟨l0, l1⟩ := least_bd l
  have hn' := hn
  unfold maxLen at hn
  have H := Lib.hid h
  have HL := Lib.hid hl
  clear h hl
  go_enter Try.func48, Try.ntmps48
  go_wp2_with fail
  refine Calls.mono (rmost_any l n HL.out hn' a cap _ H.out) ?_
  rintro e w1 ⟨rfl, hb1⟩
  have z1 := Below.size hb1; try simp only [World.size_alloc, World.size_setCell, World.size_drew] at z1
  go_wp2_with fail
  go_loopg [3, 4] n (fun g m i wr => ∃ k : Nat, k ≤ n ∧ g = n - k ∧ i = .int .i64 k ∧ m = .int .i64 ((l.take k).foldl (fun m x => min m (clamp x 64)) (mostF l)) ∧ Below w.heap.size w wr)
  case atStart => exact ⟨0, by omega, by omega, rfl, rfl, hb1⟩
  case round =>
    obtain ⟨k, hk, hg, rfl, rfl, hbw⟩ := hrel
    by_cases hlt : k < n
    · have hkl : k < l.length := by have := HL.out; omega
      have hf := foldl_take (fun m x => min m (clamp x 64)) (mostF l) l k hkl
      obtain ⟨b, off, rfl, hb, hc⟩ := H.out.cons (by intro e; have := congrArg List.length e; simp [i64s] at this; subst this; simp at hkl)
      have hcell : wr.cell? ⟨b, off + k, none⟩ = some (.int .i64 l[k]) := ((Below.blk hbw hb).1 _).trans (hc k _ (i64s_at hkl))
      clear hc
      generalize l[k] = y at *
      replace hf := Lib.hid hf
      go_wp2_with fail
      refine Calls.mono (rheld_any _ _ (by omega) _) ?_
      rintro e w5 ⟨rfl, hb5⟩
      have z5 := Below.size hb5; try simp only [World.size_alloc, World.size_setCell, World.size_drew] at z5
      go_wp2_with fail
      go_roundg (n - (k + 1))
      case measure => omega
      case rel => exact ⟨k + 1, by omega, rfl, by go_num, by rw [hf.out], (by repeat (first | with_reducible exact Below.refl _ _ | (with_reducible refine Below.al ?_) | (with_reducible refine Below.drew ?_) | (with_reducible refine Below.set ?_ (by first | (simp; done) | omega | (simp; omega))) | (with_reducible refine Below.thru ?_ (by assumption)) | (with_reducible refine Below.chg ?_ (by assumption) (by first | (simp; done) | omega | (simp; omega)))))⟩
    · obtain rfl : k = n := by omega
      have ht : (l.take k).foldl (fun m x => min m (clamp x 64)) (mostF l) = leastF l := by rw [List.take_of_length_le (by have := HL.out; omega)]; rfl
      rw [ht]
      replace ht := Lib.hid ht
      go_wp2_with fail
      refine Calls.mono (rmost_any l k HL.out hn' a cap _ (H.out.below hbw)) ?_
      rintro e w2 ⟨rfl, hb2⟩
      have z2 := Below.size hb2; try simp only [World.size_alloc, World.size_setCell, World.size_drew] at z2
      go_wp2_with fail
      go_ret
      exact Ret.mk rfl (by repeat (first | with_reducible exact Below.refl _ _ | (with_reducible refine Below.al ?_) | (with_reducible refine Below.drew ?_) | (with_reducible refine Below.set ?_ (by first | (simp; done) | omega | (simp; omega))) | (with_reducible refine Below.thru ?_ (by assumption)) | (with_reducible refine Below.chg ?_ (by assumption) (by first | (simp; done) | omega | (simp; omega)))))

def checkF (mode hold : Int) : Int := if mode < 0 ∨ 2 < mode then 7 else if hold < 0 ∨ 60 < hold then 3 else 0
theorem check_any (mode hold : Int) (w : World) : Calls Try.prog 46 #[.agg #[.int .i64 mode, .int .i64 hold]] w (Ret w (.int .i64 (checkF mode hold))) := by
  go_enter Try.func46, Try.ntmps46
  go_wp2_with fail
  all_goals
    go_ret
    exact Ret.mk (congrArg (Value.int .i64) (by unfold checkF; (repeat' split) <;> omega)) (by repeat (first | with_reducible exact Below.refl _ _ | (with_reducible refine Below.al ?_) | (with_reducible refine Below.drew ?_) | (with_reducible refine Below.set ?_ (by first | (simp; done) | omega | (simp; omega))) | (with_reducible refine Below.thru ?_ (by assumption)) | (with_reducible refine Below.chg ?_ (by assumption) (by first | (simp; done) | omega | (simp; omega)))))

theorem clamp60 (n : Int) : 0 ≤ clamp n 60 ∧ clamp n 60 ≤ 60 := by unfold clamp; omega
theorem for_any (mode hold own : Int) (l : List Int) (n : Nat) (hl : l.length = n) (hn : n ≤ maxLen) (a : Option Addr) (cap : Nat) (w : World) (h : Rd w a (i64s l)) :
    Calls Try.prog 49 #[.agg #[.int .i64 mode, .int .i64 hold], .int .i64 own, .slice a n cap] w (Ret w (.int .i64 (forF mode hold own l))) := by
  obtain ⟨c0, c1⟩ := clamp60 hold
  obtain ⟨o0, o1⟩ := clamp_bd own
  obtain ⟨m0, m1⟩ := most_bd l
  obtain ⟨p0, p1⟩ := apart_bd l
  have H := Lib.hid h
  have HL := Lib.hid hl
  clear h hl
  by_cases e0 : mode = 0
  · subst e0
    have hf : forF 0 hold own l = min (clamp hold 60) 60 := by simp [forF, gapF]
    rw [hf]
    clear hf
    go_enter Try.func49, Try.ntmps49
    go_wp2_with fail
    refine Calls.mono (held_any _ _ _) ?_
    rintro e w1 ⟨rfl, hb1⟩
    have z1 := Below.size hb1; try simp only [World.size_alloc, World.size_setCell, World.size_drew] at z1
    obtain ⟨c1_0, f1_0⟩ := Below.blk hb1 (b := w.heap.size) (by first | (simp; done) | omega | (simp; omega))
    have z1_0 : w.heap.size < w1.heap.size := (by first | (simp; done) | omega | (simp; omega))
    go_wp2_with fail
    go_ret
    exact Ret.mk rfl (by repeat (first | with_reducible exact Below.refl _ _ | (with_reducible refine Below.al ?_) | (with_reducible refine Below.drew ?_) | (with_reducible refine Below.set ?_ (by first | (simp; done) | omega | (simp; omega))) | (with_reducible refine Below.thru ?_ (by assumption)) | (with_reducible refine Below.chg ?_ (by assumption) (by first | (simp; done) | omega | (simp; omega)))))
  · by_cases e1 : mode = 1
    · subst e1
      have hf : forF 1 hold own l = min (clamp hold 60 + (apartF l + 1) / 2) 60 := by simp [forF, gapF]
      rw [hf]
      clear hf
      go_enter Try.func49, Try.ntmps49
      go_wp2_with fail
      refine Calls.mono (held_any _ _ _) ?_
      rintro e w1 ⟨rfl, hb1⟩
      have z1 := Below.size hb1; try simp only [World.size_alloc, World.size_setCell, World.size_drew] at z1
      obtain ⟨c1_0, f1_0⟩ := Below.blk hb1 (b := w.heap.size) (by first | (simp; done) | omega | (simp; omega))
      have z1_0 : w.heap.size < w1.heap.size := (by first | (simp; done) | omega | (simp; omega))
      have hR : Rd w1 a (i64s l) := H.out.below (by repeat (first | with_reducible exact Below.refl _ _ | (with_reducible refine Below.al ?_) | (with_reducible refine Below.drew ?_) | (with_reducible refine Below.set ?_ (by first | (simp; done) | omega | (simp; omega))) | (with_reducible refine Below.thru ?_ (by assumption)) | (with_reducible refine Below.chg ?_ (by assumption) (by first | (simp; done) | omega | (simp; omega)))))
      replace hR := Lib.hid hR
      go_wp2_with fail
      refine Calls.mono (apart_any l n HL.out hn a cap _ hR.out) ?_
      rintro e w2 ⟨rfl, hb2⟩
      have z2 := Below.size hb2; try simp only [World.size_alloc, World.size_setCell, World.size_drew] at z2
      obtain ⟨c2_0, f2_0⟩ := Below.blk hb2 (b := w.heap.size) (by first | (simp; done) | omega | (simp; omega))
      have z2_0 : w.heap.size < w2.heap.size := (by first | (simp; done) | omega | (simp; omega))
      go_wp2_with fail
      refine Calls.mono (half_any _ (by omega) (by omega) _) ?_
      rintro e w3 ⟨rfl, hb3⟩
      have z3 := Below.size hb3; try simp only [World.size_alloc, World.size_setCell, World.size_drew] at z3
      obtain ⟨c3_0, f3_0⟩ := Below.blk hb3 (b := w.heap.size) (by first | (simp; done) | omega | (simp; omega))
      have z3_0 : w.heap.size < w3.heap.size := (by first | (simp; done) | omega | (simp; omega))
      go_wp2_with fail
      go_ret
      exact Ret.mk rfl (by repeat (first | with_reducible exact Below.refl _ _ | (with_reducible refine Below.al ?_) | (with_reducible refine Below.drew ?_) | (with_reducible refine Below.set ?_ (by first | (simp; done) | omega | (simp; omega))) | (with_reducible refine Below.thru ?_ (by assumption)) | (with_reducible refine Below.chg ?_ (by assumption) (by first | (simp; done) | omega | (simp; omega)))))
    · by_cases e2 : mode = 2
      · subst e2
        have hf : forF 2 hold own l = min (clamp hold 60 + (max (mostF l - clamp own 64) 0 + 1) / 2) 60 := by simp [forF, gapF]
        rw [hf]
        clear hf
        go_enter Try.func49, Try.ntmps49
        go_wp2_with fail
        refine Calls.mono (held_any _ _ _) ?_
        rintro e w1 ⟨rfl, hb1⟩
        have z1 := Below.size hb1; try simp only [World.size_alloc, World.size_setCell, World.size_drew] at z1
        obtain ⟨c1_0, f1_0⟩ := Below.blk hb1 (b := w.heap.size) (by first | (simp; done) | omega | (simp; omega))
        have z1_0 : w.heap.size < w1.heap.size := (by first | (simp; done) | omega | (simp; omega))
        have hR : Rd w1 a (i64s l) := H.out.below (by repeat (first | with_reducible exact Below.refl _ _ | (with_reducible refine Below.al ?_) | (with_reducible refine Below.drew ?_) | (with_reducible refine Below.set ?_ (by first | (simp; done) | omega | (simp; omega))) | (with_reducible refine Below.thru ?_ (by assumption)) | (with_reducible refine Below.chg ?_ (by assumption) (by first | (simp; done) | omega | (simp; omega)))))
        replace hR := Lib.hid hR
        go_wp2_with fail
        refine Calls.mono (ends_any l n HL.out hn a cap _ hR.out) ?_
        rintro e w2 ⟨rfl, hb2⟩
        have z2 := Below.size hb2; try simp only [World.size_alloc, World.size_setCell, World.size_drew] at z2
        obtain ⟨c2_0, f2_0⟩ := Below.blk hb2 (b := w.heap.size) (by first | (simp; done) | omega | (simp; omega))
        have z2_0 : w.heap.size < w2.heap.size := (by first | (simp; done) | omega | (simp; omega))
        go_wp2_with fail
        refine Calls.mono (held_any _ _ _) ?_
        rintro e w3 ⟨rfl, hb3⟩
        have z3 := Below.size hb3; try simp only [World.size_alloc, World.size_setCell, World.size_drew] at z3
        obtain ⟨c3_0, f3_0⟩ := Below.blk hb3 (b := w.heap.size) (by first | (simp; done) | omega | (simp; omega))
        have z3_0 : w.heap.size < w3.heap.size := (by first | (simp; done) | omega | (simp; omega))
        go_wp2_with fail
        refine Calls.mono (half_any _ (by omega) (by omega) _) ?_
        rintro e w4 ⟨rfl, hb4⟩
        have z4 := Below.size hb4; try simp only [World.size_alloc, World.size_setCell, World.size_drew] at z4
        obtain ⟨c4_0, f4_0⟩ := Below.blk hb4 (b := w.heap.size) (by first | (simp; done) | omega | (simp; omega))
        have z4_0 : w.heap.size < w4.heap.size := (by first | (simp; done) | omega | (simp; omega))
        go_wp2_with fail
        go_ret
        exact Ret.mk rfl (by repeat (first | with_reducible exact Below.refl _ _ | (with_reducible refine Below.al ?_) | (with_reducible refine Below.drew ?_) | (with_reducible refine Below.set ?_ (by first | (simp; done) | omega | (simp; omega))) | (with_reducible refine Below.thru ?_ (by assumption)) | (with_reducible refine Below.chg ?_ (by assumption) (by first | (simp; done) | omega | (simp; omega)))))
      · have hf : forF mode hold own l = 0 := by unfold forF; rw [if_pos (by omega)]
        rw [hf]
        clear hf
        have q0 : (mode == 0) = false := by simpa using e0
        have q1 : (mode == 1) = false := by simpa using e1
        have q2 : (mode == 2) = false := by simpa using e2
        go_enter Try.func49, Try.ntmps49
        go_wp2_with fail
        refine Calls.mono (held_any _ _ _) ?_
        rintro e w1 ⟨rfl, hb1⟩
        have z1 := Below.size hb1; try simp only [World.size_alloc, World.size_setCell, World.size_drew] at z1
        obtain ⟨c1_0, f1_0⟩ := Below.blk hb1 (b := w.heap.size) (by first | (simp; done) | omega | (simp; omega))
        have z1_0 : w.heap.size < w1.heap.size := (by first | (simp; done) | omega | (simp; omega))
        go_wp2_with fail
        go_ret
        exact Ret.mk rfl (by repeat (first | with_reducible exact Below.refl _ _ | (with_reducible refine Below.al ?_) | (with_reducible refine Below.drew ?_) | (with_reducible refine Below.set ?_ (by first | (simp; done) | omega | (simp; omega))) | (with_reducible refine Below.thru ?_ (by assumption)) | (with_reducible refine Below.chg ?_ (by assumption) (by first | (simp; done) | omega | (simp; omega)))))
end Go.Proofs.Yticcedempclapaa.Hold
