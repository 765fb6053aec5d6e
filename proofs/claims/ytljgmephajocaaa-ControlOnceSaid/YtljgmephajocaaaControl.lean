/- The walks of the package control. -/
import Derived.Test.YtljgmephajocaaaDockCtl
import Derived.Test.YtljgmephajocaaaMore
namespace Go.Proofs.Ytljgmephajocaaa.Ctl
set_option linter.unusedSimpArgs false
set_option linter.unusedVariables false
open Go Go.RowKit Go.Proofs.Ytljgmephajocaaa Go.Proofs.Ytljgmephajocaaa.DockCtl
attribute [local irreducible] Calls

/-- A line: what waits, the next number, since when it was said, what was heard last. -/
structure Ln where
  l : List El
  next : Int
  since : Int
  heard : Int
def s0 : Ln := ⟨[], 1, -1, 0⟩
def badC (c : El) : Int := if c.2.1 < 1 ∨ 4 < c.2.1 then 7 else if c.2.2.1 < 0 ∨ 255 < c.2.2.1 ∨ c.2.2.2 < 0 ∨ 255 < c.2.2.2 then 3 else 0
def putE (s : Ln) (c : El) : Int := if badC c = 0 then (if 8 ≤ s.l.length then 6 else 0) else badC c
def putN (s : Ln) (c : El) : Int := if putE s c = 0 then s.next else 0
def putS (s : Ln) (c : El) : Ln := if putE s c = 0 then { s with l := s.l ++ [(s.next, c.2)], next := s.next + 1 } else s
def dueOk (s : Ln) : Bool := decide (0 < s.l.length) && !(decide (0 ≤ s.since) && decide (s.since < 4))
def dueC (s : Ln) : El := if dueOk s then headV s.l else zero
def dueS (s : Ln) : Ln := if dueOk s then { s with since := 0 } else s
def hearOk (s : Ln) (num : Int) : Bool := decide (0 < s.l.length) && decide ((headV s.l).1 = num)
def hearS (s : Ln) (num : Int) : Ln := if hearOk s num then { s with l := s.l.tail, since := -1 } else s
def conf (s : Ln) (num : Int) : Bool := decide (1 ≤ num) && decide (num - 1 ≤ s.heard)
def fresh (s : Ln) (num : Int) : Bool := decide (1 ≤ num) && decide (num - 1 = s.heard)
def takeS (s : Ln) (num : Int) : Ln := if fresh s num then { s with heard := num } else s
def tickS (s : Ln) : Ln := if 0 ≤ s.since then { s with since := s.since + 1 } else s

def lineA (q : Nat) (s : Ln) : Asn := exA fun d => sepA [cellA q [.pointer (some ⟨d, 0, none⟩), .int .i64 s.next, .int .i64 s.since, .int .i64 s.heard], dockA d 8 s.l]
theorem line_parts {W w : World} {S : Nat → Prop} {q : Nat} {s : Ln} {r : List Asn} (h : St W S w (lineA q s :: r)) : ∃ d, St W S w (cellA q [.pointer (some ⟨d, 0, none⟩), .int .i64 s.next, .int .i64 s.since, .int .i64 s.heard] :: dockA d 8 s.l :: r) := by
  obtain ⟨v, h⟩ := St.unex 0 h rfl
  exact ⟨v, St.unsep 0 h rfl⟩
theorem line_shut {W w : World} {S : Nat → Prop} {q d : Nat} {l : List El} {next since heard : Int} {r : List Asn} (h : St W S w (cellA q [.pointer (some ⟨d, 0, none⟩), .int .i64 next, .int .i64 since, .int .i64 heard] :: dockA d 8 l :: r)) : St W S w (lineA q ⟨l, next, since, heard⟩ :: r) :=
  St.ex (fun d => sepA [cellA q [.pointer (some ⟨d, 0, none⟩), .int .i64 next, .int .i64 since, .int .i64 heard], dockA d 8 l]) d (St.join [cellA q [.pointer (some ⟨d, 0, none⟩), .int .i64 next, .int .i64 since, .int .i64 heard], dockA d 8 l] r h)

theorem new_any (w : World) : Calls Try.prog 16 #[] w fun e w' => ∃ q, e = .returned (.pointer (some ⟨q, 0, none⟩)) ∧ St w none0 w' [lineA q s0] := by
  go_enter Try.func16, Try.ntmps16
  go_wp2_with fail
  refine Calls.mono (DockCtl.new_any 8 _) ?_
  rintro e w1 ⟨d, rfl, h1⟩
  have H := h1.alloc [.pointer (some ⟨d, 0, none⟩), .int .i64 1, .int .i64 (-1), .int .i64 0] 124
  replace H := Lib.hid H
  go_wp2_with fail
  go_ret
  exact ⟨_, rfl, line_shut (r := []) H.out⟩

theorem right_any (c : El) (w : World) : Calls Try.prog 76 #[val c] w (Ret w (.int .i64 (badC c))) := by
  obtain ⟨n, k, a, p⟩ := c
  unfold val badC
  simp only
  by_cases h1 : k < 1
  · have q1 : decide (k < 1) = true := decide_eq_true h1
    rw [if_pos (.inl h1)]
    go_enter Try.func76, Try.ntmps76
    go_wp2_with fail
    go_ret
    exact Ret.mk rfl (by repeat (first | with_reducible exact Below.refl _ _ | (with_reducible refine Below.al ?_) | (with_reducible refine Below.drew ?_) | (with_reducible refine Below.set ?_ (by first | (simp; done) | omega | (simp; omega))) | (with_reducible refine Below.thru ?_ (by assumption)) | (with_reducible refine Below.chg ?_ (by assumption) (by first | (simp; done) | omega | (simp; omega)))))
  · have q1 : decide (k < 1) = false := decide_eq_false h1
    by_cases h2 : 4 < k
    · have q2 : decide (4 < k) = true := decide_eq_true h2
      rw [if_pos (.inr h2)]
      go_enter Try.func76, Try.ntmps76
      go_wp2_with fail
      go_ret
      exact Ret.mk rfl (by repeat (first | with_reducible exact Below.refl _ _ | (with_reducible refine Below.al ?_) | (with_reducible refine Below.drew ?_) | (with_reducible refine Below.set ?_ (by first | (simp; done) | omega | (simp; omega))) | (with_reducible refine Below.thru ?_ (by assumption)) | (with_reducible refine Below.chg ?_ (by assumption) (by first | (simp; done) | omega | (simp; omega)))))
    · have q2 : decide (4 < k) = false := decide_eq_false h2
      rw [if_neg (by omega)]
      by_cases h3 : a < 0
      · have q3 : decide (a < 0) = true := decide_eq_true h3
        rw [if_pos (.inl h3)]
        go_enter Try.func76, Try.ntmps76
        go_wp2_with fail
        go_ret
        exact Ret.mk rfl (by repeat (first | with_reducible exact Below.refl _ _ | (with_reducible refine Below.al ?_) | (with_reducible refine Below.drew ?_) | (with_reducible refine Below.set ?_ (by first | (simp; done) | omega | (simp; omega))) | (with_reducible refine Below.thru ?_ (by assumption)) | (with_reducible refine Below.chg ?_ (by assumption) (by first | (simp; done) | omega | (simp; omega)))))
      · have q3 : decide (a < 0) = false := decide_eq_false h3
        by_cases h4 : 255 < a
        · have q4 : decide (255 < a) = true := decide_eq_true h4
          rw [if_pos (.inr (.inl h4))]
          go_enter Try.func76, Try.ntmps76
          go_wp2_with fail
          go_ret
          exact Ret.mk rfl (by repeat (first | with_reducible exact Below.refl _ _ | (with_reducible refine Below.al ?_) | (with_reducible refine Below.drew ?_) | (with_reducible refine Below.set ?_ (by first | (simp; done) | omega | (simp; omega))) | (with_reducible refine Below.thru ?_ (by assumption)) | (with_reducible refine Below.chg ?_ (by assumption) (by first | (simp; done) | omega | (simp; omega)))))
        · have q4 : decide (255 < a) = false := decide_eq_false h4
          by_cases h5 : p < 0
          · have q5 : decide (p < 0) = true := decide_eq_true h5
            rw [if_pos (.inr (.inr (.inl h5)))]
            go_enter Try.func76, Try.ntmps76
            go_wp2_with fail
            go_ret
            exact Ret.mk rfl (by repeat (first | with_reducible exact Below.refl _ _ | (with_reducible refine Below.al ?_) | (with_reducible refine Below.drew ?_) | (with_reducible refine Below.set ?_ (by first | (simp; done) | omega | (simp; omega))) | (with_reducible refine Below.thru ?_ (by assumption)) | (with_reducible refine Below.chg ?_ (by assumption) (by first | (simp; done) | omega | (simp; omega)))))
          · have q5 : decide (p < 0) = false := decide_eq_false h5
            by_cases h6 : 255 < p
            · have q6 : decide (255 < p) = true := decide_eq_true h6
              rw [if_pos (.inr (.inr (.inr h6)))]
              go_enter Try.func76, Try.ntmps76
              go_wp2_with fail
              go_ret
              exact Ret.mk rfl (by repeat (first | with_reducible exact Below.refl _ _ | (with_reducible refine Below.al ?_) | (with_reducible refine Below.drew ?_) | (with_reducible refine Below.set ?_ (by first | (simp; done) | omega | (simp; omega))) | (with_reducible refine Below.thru ?_ (by assumption)) | (with_reducible refine Below.chg ?_ (by assumption) (by first | (simp; done) | omega | (simp; omega)))))
            · have q6 : decide (255 < p) = false := decide_eq_false h6
              rw [if_neg (by omega)]
              go_enter Try.func76, Try.ntmps76
              go_wp2_with fail
              go_ret
              exact Ret.mk rfl (by repeat (first | with_reducible exact Below.refl _ _ | (with_reducible refine Below.al ?_) | (with_reducible refine Below.drew ?_) | (with_reducible refine Below.set ?_ (by first | (simp; done) | omega | (simp; omega))) | (with_reducible refine Below.thru ?_ (by assumption)) | (with_reducible refine Below.chg ?_ (by assumption) (by first | (simp; done) | omega | (simp; omega)))))

theorem first_any (q : Nat) (s : Ln) (w : World) (S : Nat → Prop) (h : (lineA q s).holds w S) : Calls Try.prog 78 #[.pointer (some ⟨q, 0, none⟩)] w (Ret w (.tuple #[val (headV s.l), .bool (decide (0 < s.l.length))])) := by
  have H0 : St w S w [lineA q s] := St.start (Sep.one h)
  obtain ⟨d, H⟩ := line_parts H0
  obtain ⟨z, c, f⟩ := H.box 0 rfl
  obtain ⟨x, hx⟩ : ∃ x, headV s.l = x := ⟨_, rfl⟩
  have hfa := fun w S h => DockCtl.first_any d 8 s.l w S h
  rw [hx] at hfa ⊢
  replace H := Lib.hid H; replace H0 := Lib.hid H0
  go_enter Try.func78, Try.ntmps78
  go_wp2_with fail
  obtain ⟨SX, hSX⟩ := (H.out.skip (.cells #[.int .i64 0, .int .i64 0, .int .i64 0, .int .i64 0] 29)).held 1 rfl
  refine Calls.mono (hfa _ SX hSX) ?_
  rintro e w1 ⟨rfl, hb1⟩
  have hr : Box w1 w.heap.size [.int .i64 0, .int .i64 0, .int .i64 0, .int .i64 0] := (Box.new [.int .i64 0, .int .i64 0, .int .i64 0, .int .i64 0] 29).below hb1
  obtain ⟨zr, cr, fr⟩ := hr
  clear hfa
  unfold val
  go_wp2_with fail
  exact bodyPost_ret (v := .tuple #[val x, .bool (decide (0 < s.l.length))]) (by simp [results, Try.results78, go_sem, cr, zr, val]) rfl (Ret.mk rfl (by repeat (first | with_reducible exact Below.refl _ _ | (with_reducible refine Below.al ?_) | (with_reducible refine Below.drew ?_) | (with_reducible refine Below.set ?_ (by first | (simp; done) | omega | (simp; omega))) | (with_reducible refine Below.thru ?_ (by assumption)) | (with_reducible refine Below.chg ?_ (by assumption) (by first | (simp; done) | omega | (simp; omega))))))
theorem first_none (w : World) : Calls Try.prog 78 #[.pointer none] w (Ret w (.tuple #[val zero, .bool false])) := by
  go_enter Try.func78, Try.ntmps78
  go_wp2_with fail
  exact bodyPost_ret (v := .tuple #[val zero, .bool false]) (by simp [results, Try.results78, go_sem, val, zero]; try rfl) rfl (Ret.mk rfl (by repeat (first | with_reducible exact Below.refl _ _ | (with_reducible refine Below.al ?_) | (with_reducible refine Below.drew ?_) | (with_reducible refine Below.set ?_ (by first | (simp; done) | omega | (simp; omega))) | (with_reducible refine Below.thru ?_ (by assumption)) | (with_reducible refine Below.chg ?_ (by assumption) (by first | (simp; done) | omega | (simp; omega))))))
theorem len_any (q : Nat) (s : Ln) (w : World) (S : Nat → Prop) (h : (lineA q s).holds w S) : Calls Try.prog 28 #[.pointer (some ⟨q, 0, none⟩)] w (Ret w (.int .i64 s.l.length)) := by
  have H0 : St w S w [lineA q s] := St.start (Sep.one h)
  obtain ⟨d, H⟩ := line_parts H0
  obtain ⟨z, c, f⟩ := H.box 0 rfl
  obtain ⟨SD, hD⟩ := H.held 1 rfl
  replace H := Lib.hid H; replace H0 := Lib.hid H0
  go_enter Try.func28, Try.ntmps28
  go_wp2_with fail
  refine Calls.mono (DockCtl.len_any d 8 s.l _ SD hD) ?_
  rintro e w1 ⟨rfl, hb1⟩
  have z1 := Below.size hb1; try simp only [World.size_alloc, World.size_setCell, World.size_drew] at z1
  go_wp2_with fail
  go_ret
  exact Ret.mk rfl (by repeat (first | with_reducible exact Below.refl _ _ | (with_reducible refine Below.al ?_) | (with_reducible refine Below.drew ?_) | (with_reducible refine Below.set ?_ (by first | (simp; done) | omega | (simp; omega))) | (with_reducible refine Below.thru ?_ (by assumption)) | (with_reducible refine Below.chg ?_ (by assumption) (by first | (simp; done) | omega | (simp; omega)))))
theorem len_none (w : World) : Calls Try.prog 28 #[.pointer none] w (Ret w (.int .i64 0)) := by
  go_enter Try.func28, Try.ntmps28
  go_wp2_with fail
  go_ret
  exact Ret.mk rfl (by repeat (first | with_reducible exact Below.refl _ _ | (with_reducible refine Below.al ?_) | (with_reducible refine Below.drew ?_) | (with_reducible refine Below.set ?_ (by first | (simp; done) | omega | (simp; omega))) | (with_reducible refine Below.thru ?_ (by assumption)) | (with_reducible refine Below.chg ?_ (by assumption) (by first | (simp; done) | omega | (simp; omega)))))

theorem put_none (c : El) (w : World) : Calls Try.prog 18 #[.pointer none, val c] w (Ret w (.tuple #[.int .i64 0, .int .i64 10])) := by
  unfold val
  go_enter Try.func18, Try.ntmps18
  go_wp2_with fail
  go_ret2
  exact Ret.mk rfl (by repeat (first | with_reducible exact Below.refl _ _ | (with_reducible refine Below.al ?_) | (with_reducible refine Below.drew ?_) | (with_reducible refine Below.set ?_ (by first | (simp; done) | omega | (simp; omega))) | (with_reducible refine Below.thru ?_ (by assumption)) | (with_reducible refine Below.chg ?_ (by assumption) (by first | (simp; done) | omega | (simp; omega)))))
set_option maxRecDepth 100000 in
theorem put_any (q : Nat) (s : Ln) (c : El) (w : World) (S : Nat → Prop) (h : (lineA q s).holds w S) (hl : s.l.length ≤ 8) (h0 : 0 ≤ s.next) (h1 : s.next ≤ 1000000) :
    Calls Try.prog 18 #[.pointer (some ⟨q, 0, none⟩), val c] w (Fin w S (.tuple #[.int .i64 (putN s c), .int .i64 (putE s c)]) [lineA q (putS s c)]) := by
  obtain ⟨l, next, since, heard⟩ := s
  obtain ⟨n, k, a, p⟩ := c
  have H0 : St w S w [lineA q ⟨l, next, since, heard⟩] := St.start (Sep.one h)
  have hr := right_any (n, k, a, p)
  simp only at hl h0 h1
  clear h
  unfold putN putS putE val
  unfold val at hr
  simp only at hr ⊢
  obtain ⟨e0, he⟩ : ∃ e0, badC (n, k, a, p) = e0 := ⟨_, rfl⟩
  rw [he] at hr ⊢
  clear he
  by_cases hb : e0 = 0
  · subst hb
    simp only [if_true]
    by_cases h8 : 8 ≤ l.length
    · simp only [if_pos h8, if_neg (show ¬ (6 : Int) = 0 by omega)]
      have H1 := (H0.alloc [.int .i64 n, .int .i64 k, .int .i64 a, .int .i64 p] 29).front 1 rfl
      obtain ⟨d, H2⟩ := line_parts H1
      obtain ⟨z, cc, f⟩ := H2.box 0 rfl
      clear H1
      have hq : q < w.heap.size := by
        obtain ⟨d', H3⟩ := line_parts H0
        exact (H3.box 0 rfl).lt
      simp only at H2
      replace H0 := Lib.hid H0; replace H2 := Lib.hid H2
      go_enter Try.func18, Try.ntmps18
      go_wp2_with fail
      refine Calls.mono (hr _) ?_
      rintro e w1 ⟨rfl, hb1⟩
      have z1 := Below.size hb1; try simp only [World.size_alloc, World.size_setCell, World.size_drew] at z1
      obtain ⟨c1_0, f1_0⟩ := Below.blk hb1 (b := q) (by first | (simp; done) | omega | (simp; omega))
      have z1_0 : q < w1.heap.size := (by first | (simp; done) | omega | (simp; omega))
      obtain ⟨c1_1, f1_1⟩ := Below.blk hb1 (b := w.heap.size) (by first | (simp; done) | omega | (simp; omega))
      have z1_1 : w.heap.size < w1.heap.size := (by first | (simp; done) | omega | (simp; omega))
      have H3 := (H2.out.thru hb1).set 2 rfl 0 (.int .i64 next) (by simp)
      clear hr H2
      replace H3 := Lib.hid H3
      go_wp2_with fail
      refine wp_region_near_tail 5 (by kernel_rfl) (by kernel_rfl) ?_
      intro hs
      simp only [List.take_succ_cons, List.take_zero, List.drop_succ_cons, List.drop_zero]
      repeat (go_big_quiet_step (fail))
      refine wpQuiet_nil ?_
      clear hs
      intro w2 hb2
      have H4 := H3.out.thru hb2
      have hp : Calls Try.prog 77 #[.pointer (some ⟨d, 0, none⟩), .agg #[.int .i64 next, .int .i64 k, .int .i64 a, .int .i64 p]] w2 (Fin w S (.bool (decide ((l.length : Int) < 8))) _) :=
        Calls.st_at 2 H4 rfl (fun S hS => DockCtl.push_any d 8 l (next, k, a, p) w2 S hS (by omega))
      clear H4 H3
      rw [if_neg (by omega), decide_eq_false (by omega)] at hp
      go_wp2_with fail
      refine Calls.mono hp ?_
      rintro e w3 ⟨rfl, h3⟩
      have H5 := (line_shut (r := [_]) (h3.front 2 rfl)).drop 1 rfl
      clear hp h3
      replace H5 := Lib.hid H5
      go_wp2_with fail
      go_ret2
      exact ⟨rfl, H5.out⟩
    · simp only [if_neg h8, if_true]
      have H1 := (H0.alloc [.int .i64 n, .int .i64 k, .int .i64 a, .int .i64 p] 29).front 1 rfl
      obtain ⟨d, H2⟩ := line_parts H1
      obtain ⟨z, cc, f⟩ := H2.box 0 rfl
      clear H1
      have hq : q < w.heap.size := by
        obtain ⟨d', H3⟩ := line_parts H0
        exact (H3.box 0 rfl).lt
      simp only at H2
      replace H0 := Lib.hid H0; replace H2 := Lib.hid H2
      go_enter Try.func18, Try.ntmps18
      go_wp2_with fail
      refine Calls.mono (hr _) ?_
      rintro e w1 ⟨rfl, hb1⟩
      have z1 := Below.size hb1; try simp only [World.size_alloc, World.size_setCell, World.size_drew] at z1
      obtain ⟨c1_0, f1_0⟩ := Below.blk hb1 (b := q) (by first | (simp; done) | omega | (simp; omega))
      have z1_0 : q < w1.heap.size := (by first | (simp; done) | omega | (simp; omega))
      obtain ⟨c1_1, f1_1⟩ := Below.blk hb1 (b := w.heap.size) (by first | (simp; done) | omega | (simp; omega))
      have z1_1 : w.heap.size < w1.heap.size := (by first | (simp; done) | omega | (simp; omega))
      have H3 := (H2.out.thru hb1).set 2 rfl 0 (.int .i64 next) (by simp)
      clear hr H2
      replace H3 := Lib.hid H3
      go_wp2_with fail
      refine wp_region_near_tail 5 (by kernel_rfl) (by kernel_rfl) ?_
      intro hs
      simp only [List.take_succ_cons, List.take_zero, List.drop_succ_cons, List.drop_zero]
      repeat (go_big_quiet_step (fail))
      refine wpQuiet_nil ?_
      clear hs
      intro w2 hb2
      have H4 := H3.out.thru hb2
      have hp : Calls Try.prog 77 #[.pointer (some ⟨d, 0, none⟩), .agg #[.int .i64 next, .int .i64 k, .int .i64 a, .int .i64 p]] w2 (Fin w S (.bool (decide ((l.length : Int) < 8))) _) :=
        Calls.st_at 2 H4 rfl (fun S hS => DockCtl.push_any d 8 l (next, k, a, p) w2 S hS (by omega))
      clear H4 H3
      rw [if_pos (by omega), decide_eq_true (by omega)] at hp
      go_wp2_with fail
      refine Calls.mono hp ?_
      rintro e w3 ⟨rfl, h3⟩
      have h3' := h3.front 2 rfl
      obtain ⟨z3, c3, f3⟩ := h3'.box 0 rfl
      obtain ⟨zc, kc, fc⟩ := h3'.box 2 rfl
      have H5 := (line_shut (r := [_]) (h3'.set 0 rfl 1 (.int .i64 (next + 1)) (by simp))).drop 1 rfl
      clear hp h3 h3'
      replace H5 := Lib.hid H5
      go_wp2_with fail
      go_ret2
      exact ⟨rfl, H5.out⟩
  · have q1 : (e0 != 0) = true := by simp [hb]
    simp only [if_neg hb]
    replace hb := Lib.hid hb
    replace H0 := Lib.hid H0
    go_enter Try.func18, Try.ntmps18
    go_wp2_with fail
    refine Calls.mono (hr _) ?_
    rintro e w1 ⟨rfl, hb1⟩
    have z1 := Below.size hb1; try simp only [World.size_alloc, World.size_setCell, World.size_drew] at z1
    go_wp2_with fail
    go_ret2
    exact ⟨rfl, (H0.out.skip (.cells #[.int .i64 n, .int .i64 k, .int .i64 a, .int .i64 p] 29)).thru hb1⟩

theorem due_none (w : World) : Calls Try.prog 20 #[.pointer none] w (Ret w (.tuple #[val zero, .bool false])) := by
  go_enter Try.func20, Try.ntmps20
  go_wp2_with fail
  refine Calls.mono (first_none _) ?_
  rintro e w1 ⟨rfl, hb1⟩
  have hr : Box w1 w.heap.size [.int .i64 0, .int .i64 0, .int .i64 0, .int .i64 0] := (Box.new [.int .i64 0, .int .i64 0, .int .i64 0, .int .i64 0] 29).below hb1
  obtain ⟨zr, cr, fr⟩ := hr
  unfold val zero
  have z1 := hb1.size
  simp only [World.size_alloc] at z1
  have n1 : ¬ w.heap.size = w1.heap.size := by omega
  have n2 : ¬ w1.heap.size = w.heap.size := by omega
  go_wp2_with fail
  exact bodyPost_ret (v := .tuple #[val zero, .bool false]) (by simp [results, Try.results20, go_sem, val, zero, cr, zr, n1, n2]; try rfl) rfl (Ret.mk rfl (by repeat (first | with_reducible exact Below.refl _ _ | (with_reducible refine Below.al ?_) | (with_reducible refine Below.drew ?_) | (with_reducible refine Below.set ?_ (by first | (simp; done) | omega | (simp; omega))) | (with_reducible refine Below.thru ?_ (by assumption)) | (with_reducible refine Below.chg ?_ (by assumption) (by first | (simp; done) | omega | (simp; omega))))))
theorem hear_none (x : Int) (w : World) : Calls Try.prog 22 #[.pointer none, .int .i64 x] w (Ret w (.bool false)) := by
  go_enter Try.func22, Try.ntmps22
  go_wp2_with fail
  refine Calls.mono (first_none _) ?_
  rintro e w1 ⟨rfl, hb1⟩
  unfold val zero
  go_wp2_with fail
  go_ret
  exact Ret.mk rfl (by repeat (first | with_reducible exact Below.refl _ _ | (with_reducible refine Below.al ?_) | (with_reducible refine Below.drew ?_) | (with_reducible refine Below.set ?_ (by first | (simp; done) | omega | (simp; omega))) | (with_reducible refine Below.thru ?_ (by assumption)) | (with_reducible refine Below.chg ?_ (by assumption) (by first | (simp; done) | omega | (simp; omega)))))
theorem tick_none (w : World) : Calls Try.prog 26 #[.pointer none] w (Ret w (.tuple #[])) := by
  go_enter Try.func26, Try.ntmps26
  go_wp2_with fail
  go_end0
  exact Ret.mk rfl (by repeat (first | with_reducible exact Below.refl _ _ | (with_reducible refine Below.al ?_) | (with_reducible refine Below.drew ?_) | (with_reducible refine Below.set ?_ (by first | (simp; done) | omega | (simp; omega))) | (with_reducible refine Below.thru ?_ (by assumption)) | (with_reducible refine Below.chg ?_ (by assumption) (by first | (simp; done) | omega | (simp; omega)))))
theorem take_none (c : El) (w : World) : Calls Try.prog 24 #[.pointer none, val c] w (Ret w (.tuple #[.bool false, .bool false])) := by
  unfold val
  go_enter Try.func24, Try.ntmps24
  go_wp2_with fail
  refine wp_region_near (by kernel_rfl) (by kernel_rfl) ?_
  intro hs
  repeat (go_big_quiet_step (fail))
  refine wpQuiet_nil ?_
  clear hs
  intro w1 hb1
  go_wp2_with fail
  go_ret2
  exact Ret.mk rfl (by repeat (first | with_reducible exact Below.refl _ _ | (with_reducible refine Below.al ?_) | (with_reducible refine Below.drew ?_) | (with_reducible refine Below.set ?_ (by first | (simp; done) | omega | (simp; omega))) | (with_reducible refine Below.thru ?_ (by assumption)) | (with_reducible refine Below.chg ?_ (by assumption) (by first | (simp; done) | omega | (simp; omega)))))

theorem val_eq (x : El) : Value.agg #[.int .i64 x.1, .int .i64 x.2.1, .int .i64 x.2.2.1, .int .i64 x.2.2.2] = val x := rfl
set_option maxRecDepth 100000 in
theorem due_any (q : Nat) (s : Ln) (w : World) (S : Nat → Prop) (h : (lineA q s).holds w S) :
    Calls Try.prog 20 #[.pointer (some ⟨q, 0, none⟩)] w (Fin w S (.tuple #[val (dueC s), .bool (dueOk s)]) [lineA q (dueS s)]) := by
  obtain ⟨l, next, since, heard⟩ := s
  unfold dueC dueS dueOk
  simp only
  by_cases h0 : 0 < l.length
  · have q0 : decide (0 < l.length) = true := decide_eq_true h0
    rw [q0, Bool.true_and]
    by_cases h1 : 0 ≤ since ∧ since < 4
    · have q1 : decide (0 ≤ since) = true := decide_eq_true h1.1
      have q2 : decide (since < 4) = true := decide_eq_true h1.2
      simp only [q1, q2, Bool.true_and, Bool.not_true, Bool.false_eq_true, if_false]
      have H0 : St w S w [lineA q ⟨l, next, since, heard⟩] := St.start (Sep.one h)
      obtain ⟨x, hx⟩ : ∃ x, headV l = x := ⟨_, rfl⟩
      have hfa := fun w S h => first_any q ⟨l, next, since, heard⟩ w S h
      simp only at hfa
      rw [hx] at hfa
      clear h
      have hq : q < w.heap.size := by
        obtain ⟨d', H3⟩ := line_parts H0
        exact (H3.box 0 rfl).lt
      have H1 := (H0.alloc [.int .i64 0, .int .i64 0, .int .i64 0, .int .i64 0] 29).front 1 rfl
      obtain ⟨_, hS⟩ := H1.held 0 rfl
      have P := hfa _ _ hS
      clear hfa hS
      unfold val at P
      replace H0 := Lib.hid H0; replace H1 := Lib.hid H1
      go_enter Try.func20, Try.ntmps20
      go_wp2_with fail
      refine Calls.mono P ?_
      rintro e w1 ⟨rfl, hb1⟩
      have H2 := H1.out.thru hb1
      have z1 := hb1.size
      simp only [World.size_alloc] at z1
      have n1 : ¬ w.heap.size = w1.heap.size := by omega
      have n2 : ¬ w1.heap.size = w.heap.size := by omega
      have n3 : ¬ q = w.heap.size := by omega
      have n4 : ¬ q = w1.heap.size := by omega
      have n5 : ¬ w.heap.size = q := by omega
      have n6 : ¬ w1.heap.size = q := by omega
      obtain ⟨d, H3⟩ := line_parts H2
      obtain ⟨zq, cq, fq⟩ := H3.box 0 rfl
      obtain ⟨zr, cr, fr⟩ := H3.box 2 rfl
      simp only at cq
      clear P H1 H2
      replace H3 := Lib.hid H3
      go_wp2_with fail
      refine bodyPost_ret (v := .tuple #[val zero, .bool false]) (by simp [results, Try.results20, go_sem, cr, zr, n1, n2, val, zero]) rfl ?_
      have H4 := ((((((((H3.out.front 2 rfl).set 0 rfl 0 (.int .i64 0) (by simp))).set 0 rfl 1 (.int .i64 0) (by simp))).set 0 rfl 2 (.int .i64 0) (by simp))).set 0 rfl 3 (.int .i64 0) (by simp))
      exact ⟨rfl, (line_shut (r := []) (H4.drop 0 rfl)).skip _⟩
    · by_cases h2 : 0 ≤ since
      · have q1 : decide (0 ≤ since) = true := decide_eq_true h2
        have q2 : decide (since < 4) = false := decide_eq_false (by omega)
        simp only [q1, q2, Bool.true_and, Bool.not_false, if_true]
        have H0 : St w S w [lineA q ⟨l, next, since, heard⟩] := St.start (Sep.one h)
        obtain ⟨x, hx⟩ : ∃ x, headV l = x := ⟨_, rfl⟩
        have hfa := fun w S h => first_any q ⟨l, next, since, heard⟩ w S h
        simp only at hfa
        rw [hx] at hfa
        clear h
        have hq : q < w.heap.size := by
          obtain ⟨d', H3⟩ := line_parts H0
          exact (H3.box 0 rfl).lt
        have H1 := (H0.alloc [.int .i64 0, .int .i64 0, .int .i64 0, .int .i64 0] 29).front 1 rfl
        obtain ⟨_, hS⟩ := H1.held 0 rfl
        have P := hfa _ _ hS
        clear hfa hS
        unfold val at P
        replace H0 := Lib.hid H0; replace H1 := Lib.hid H1
        go_enter Try.func20, Try.ntmps20
        go_wp2_with fail
        refine Calls.mono P ?_
        rintro e w1 ⟨rfl, hb1⟩
        have H2 := H1.out.thru hb1
        have z1 := hb1.size
        simp only [World.size_alloc] at z1
        have n1 : ¬ w.heap.size = w1.heap.size := by omega
        have n2 : ¬ w1.heap.size = w.heap.size := by omega
        have n3 : ¬ q = w.heap.size := by omega
        have n4 : ¬ q = w1.heap.size := by omega
        have n5 : ¬ w.heap.size = q := by omega
        have n6 : ¬ w1.heap.size = q := by omega
        obtain ⟨d, H3⟩ := line_parts H2
        obtain ⟨zq, cq, fq⟩ := H3.box 0 rfl
        obtain ⟨zr, cr, fr⟩ := H3.box 2 rfl
        simp only at cq
        clear P H1 H2
        replace H3 := Lib.hid H3
        go_wp2_with fail
        have hv : Value.agg #[.int .i64 x.1, .int .i64 x.2.1, .int .i64 x.2.2.1, .int .i64 x.2.2.2] = val x := rfl
        refine bodyPost_ret (v := .tuple #[val x, .bool true]) (by simp [results, Try.results20, go_sem, cr, zr, n1, n2, n3, n4, n5, n6, val]) rfl ?_
        have H4 := H3.out.set 0 rfl 2 (.int .i64 0) (by simp)
        have H5 := ((((((((H4.front 2 rfl).set 0 rfl 0 (.int .i64 x.1) (by simp))).set 0 rfl 1 (.int .i64 x.2.1) (by simp))).set 0 rfl 2 (.int .i64 x.2.2.1) (by simp))).set 0 rfl 3 (.int .i64 x.2.2.2) (by simp))
        exact ⟨by rw [hx], (line_shut (r := []) (H5.drop 0 rfl)).skip _⟩
      · have q1 : decide (0 ≤ since) = false := decide_eq_false h2
        simp only [q1, Bool.false_and, Bool.not_false, if_true]
        have H0 : St w S w [lineA q ⟨l, next, since, heard⟩] := St.start (Sep.one h)
        obtain ⟨x, hx⟩ : ∃ x, headV l = x := ⟨_, rfl⟩
        have hfa := fun w S h => first_any q ⟨l, next, since, heard⟩ w S h
        simp only at hfa
        rw [hx] at hfa
        clear h
        have hq : q < w.heap.size := by
          obtain ⟨d', H3⟩ := line_parts H0
          exact (H3.box 0 rfl).lt
        have H1 := (H0.alloc [.int .i64 0, .int .i64 0, .int .i64 0, .int .i64 0] 29).front 1 rfl
        obtain ⟨_, hS⟩ := H1.held 0 rfl
        have P := hfa _ _ hS
        clear hfa hS
        unfold val at P
        replace H0 := Lib.hid H0; replace H1 := Lib.hid H1
        go_enter Try.func20, Try.ntmps20
        go_wp2_with fail
        refine Calls.mono P ?_
        rintro e w1 ⟨rfl, hb1⟩
        have H2 := H1.out.thru hb1
        have z1 := hb1.size
        simp only [World.size_alloc] at z1
        have n1 : ¬ w.heap.size = w1.heap.size := by omega
        have n2 : ¬ w1.heap.size = w.heap.size := by omega
        have n3 : ¬ q = w.heap.size := by omega
        have n4 : ¬ q = w1.heap.size := by omega
        have n5 : ¬ w.heap.size = q := by omega
        have n6 : ¬ w1.heap.size = q := by omega
        obtain ⟨d, H3⟩ := line_parts H2
        obtain ⟨zq, cq, fq⟩ := H3.box 0 rfl
        obtain ⟨zr, cr, fr⟩ := H3.box 2 rfl
        simp only at cq
        clear P H1 H2
        replace H3 := Lib.hid H3
        go_wp2_with fail
        have hv : Value.agg #[.int .i64 x.1, .int .i64 x.2.1, .int .i64 x.2.2.1, .int .i64 x.2.2.2] = val x := rfl
        refine bodyPost_ret (v := .tuple #[val x, .bool true]) (by simp [results, Try.results20, go_sem, cr, zr, n1, n2, n3, n4, n5, n6, val]) rfl ?_
        have H4 := H3.out.set 0 rfl 2 (.int .i64 0) (by simp)
        have H5 := ((((((((H4.front 2 rfl).set 0 rfl 0 (.int .i64 x.1) (by simp))).set 0 rfl 1 (.int .i64 x.2.1) (by simp))).set 0 rfl 2 (.int .i64 x.2.2.1) (by simp))).set 0 rfl 3 (.int .i64 x.2.2.2) (by simp))
        exact ⟨by rw [hx], (line_shut (r := []) (H5.drop 0 rfl)).skip _⟩
  · have q0 : decide (0 < l.length) = false := decide_eq_false h0
    simp only [q0, Bool.false_and, Bool.false_eq_true, if_false]
    have H0 : St w S w [lineA q ⟨l, next, since, heard⟩] := St.start (Sep.one h)
    obtain ⟨x, hx⟩ : ∃ x, headV l = x := ⟨_, rfl⟩
    have hfa := fun w S h => first_any q ⟨l, next, since, heard⟩ w S h
    simp only at hfa
    rw [hx] at hfa
    clear h
    have hq : q < w.heap.size := by
      obtain ⟨d', H3⟩ := line_parts H0
      exact (H3.box 0 rfl).lt
    have H1 := (H0.alloc [.int .i64 0, .int .i64 0, .int .i64 0, .int .i64 0] 29).front 1 rfl
    obtain ⟨_, hS⟩ := H1.held 0 rfl
    have P := hfa _ _ hS
    clear hfa hS
    unfold val at P
    replace H0 := Lib.hid H0; replace H1 := Lib.hid H1
    go_enter Try.func20, Try.ntmps20
    go_wp2_with fail
    refine Calls.mono P ?_
    rintro e w1 ⟨rfl, hb1⟩
    have H2 := H1.out.thru hb1
    have z1 := hb1.size
    simp only [World.size_alloc] at z1
    have n1 : ¬ w.heap.size = w1.heap.size := by omega
    have n2 : ¬ w1.heap.size = w.heap.size := by omega
    have n3 : ¬ q = w.heap.size := by omega
    have n4 : ¬ q = w1.heap.size := by omega
    have n5 : ¬ w.heap.size = q := by omega
    have n6 : ¬ w1.heap.size = q := by omega
    obtain ⟨d, H3⟩ := line_parts H2
    obtain ⟨zq, cq, fq⟩ := H3.box 0 rfl
    obtain ⟨zr, cr, fr⟩ := H3.box 2 rfl
    simp only at cq
    clear P H1 H2
    replace H3 := Lib.hid H3
    go_wp2_with fail
    refine bodyPost_ret (v := .tuple #[val zero, .bool false]) (by simp [results, Try.results20, go_sem, cr, zr, n1, n2, val, zero]) rfl ?_
    have H4 := ((((((((H3.out.front 2 rfl).set 0 rfl 0 (.int .i64 0) (by simp))).set 0 rfl 1 (.int .i64 0) (by simp))).set 0 rfl 2 (.int .i64 0) (by simp))).set 0 rfl 3 (.int .i64 0) (by simp))
    exact ⟨rfl, (line_shut (r := []) (H4.drop 0 rfl)).skip _⟩

theorem tick_any (q : Nat) (s : Ln) (w : World) (S : Nat → Prop) (h : (lineA q s).holds w S) (hs : s.since ≤ 1000000) :
    Calls Try.prog 26 #[.pointer (some ⟨q, 0, none⟩)] w (Fin w S (.tuple #[]) [lineA q (tickS s)]) := by
  obtain ⟨l, next, since, heard⟩ := s
  have H0 : St w S w [lineA q ⟨l, next, since, heard⟩] := St.start (Sep.one h)
  obtain ⟨d, H⟩ := line_parts H0
  obtain ⟨z, c, f⟩ := H.box 0 rfl
  simp only at hs c
  unfold tickS
  simp only
  by_cases h0 : 0 ≤ since
  · have q0 : decide (0 ≤ since) = true := decide_eq_true h0
    rw [if_pos h0]
    have H1 := line_shut (r := []) (H.set 0 rfl 2 (.int .i64 (since + 1)) (by simp))
    replace H := Lib.hid H; replace H0 := Lib.hid H0; replace H1 := Lib.hid H1
    go_enter Try.func26, Try.ntmps26
    go_wp2_with fail
    go_end0
    exact ⟨rfl, H1.out⟩
  · have q0 : decide (0 ≤ since) = false := decide_eq_false h0
    rw [if_neg h0]
    replace H := Lib.hid H; replace H0 := Lib.hid H0
    go_enter Try.func26, Try.ntmps26
    go_wp2_with fail
    go_end0
    exact ⟨rfl, H0.out⟩
set_option maxRecDepth 100000 in
theorem take_any (q : Nat) (s : Ln) (c : El) (w : World) (S : Nat → Prop) (h : (lineA q s).holds w S) (hs0 : 0 ≤ s.heard) (hs : s.heard ≤ 1000000) (hc : isI64 c.1) :
    Calls Try.prog 24 #[.pointer (some ⟨q, 0, none⟩), val c] w (Fin w S (.tuple #[.bool (fresh s c.1), .bool (conf s c.1)]) [lineA q (takeS s c.1)]) := by
  obtain ⟨l, next, since, heard⟩ := s
  obtain ⟨n, k, a, p⟩ := c
  have H0 : St w S w [lineA q ⟨l, next, since, heard⟩] := St.start (Sep.one h)
  have hq : q < w.heap.size := by
    obtain ⟨d', H3⟩ := line_parts H0
    exact (H3.box 0 rfl).lt
  have H1 := (H0.alloc [.int .i64 n, .int .i64 k, .int .i64 a, .int .i64 p] 29).front 1 rfl
  obtain ⟨d, H⟩ := line_parts H1
  obtain ⟨z, cc, f⟩ := H.box 0 rfl
  unfold isI64 at hc
  simp only at hs cc hs0 hc
  unfold takeS fresh conf val
  simp only
  clear H0 H1 h
  by_cases h0 : n < 1
  · have q0 : decide (n < 1) = true := decide_eq_true h0
    simp only [show decide (1 ≤ n) = false from decide_eq_false (by omega), Bool.false_and, Bool.false_eq_true, if_false]
    have HE := (line_shut H).drop 1 rfl
    replace H := Lib.hid H; replace HE := Lib.hid HE
    go_enter Try.func24, Try.ntmps24
    go_wp2_with fail
    refine wp_region_near (by kernel_rfl) (by kernel_rfl) ?_
    intro hs
    repeat (go_big_quiet_step (fail))
    refine wpQuiet_nil ?_
    clear hs
    intro w1 hb1
    obtain ⟨ck, fk⟩ := Below.blk hb1 (b := w.heap.size) (by first | (simp; done) | omega | (simp; omega))
    obtain ⟨cq, fq⟩ := Below.blk hb1 (b := q) (by first | (simp; done) | omega | (simp; omega))
    have z1 := hb1.size
    simp only [World.size_alloc] at z1
    have z2 : w.heap.size < w1.heap.size := by omega
    have z3 : q < w1.heap.size := by omega
    go_wp2_with fail
    go_ret2
    exact ⟨rfl, HE.out.thru hb1⟩
  · have q0 : decide (n < 1) = false := decide_eq_false h0
    simp only [show decide (1 ≤ n) = true from decide_eq_true (by omega), Bool.true_and]
    by_cases h1 : heard < n - 1
    · have q1 : decide (heard < n - 1) = true := decide_eq_true h1
      simp only [show decide (n - 1 = heard) = false from decide_eq_false (by omega), show decide (n - 1 ≤ heard) = false from decide_eq_false (by omega), Bool.false_eq_true, if_false]
      have HE := (line_shut H).drop 1 rfl
      replace H := Lib.hid H; replace HE := Lib.hid HE
      go_enter Try.func24, Try.ntmps24
      go_wp2_with fail
      refine wp_region_near (by kernel_rfl) (by kernel_rfl) ?_
      intro hs
      repeat (go_big_quiet_step (fail))
      refine wpQuiet_nil ?_
      clear hs
      intro w1 hb1
      obtain ⟨ck, fk⟩ := Below.blk hb1 (b := w.heap.size) (by first | (simp; done) | omega | (simp; omega))
      obtain ⟨cq, fq⟩ := Below.blk hb1 (b := q) (by first | (simp; done) | omega | (simp; omega))
      have z1 := hb1.size
      simp only [World.size_alloc] at z1
      have z2 : w.heap.size < w1.heap.size := by omega
      have z3 : q < w1.heap.size := by omega
      go_wp2_with fail
      go_ret2
      exact ⟨rfl, HE.out.thru hb1⟩
    · have q1 : decide (heard < n - 1) = false := decide_eq_false h1
      rw [show decide (n - 1 ≤ heard) = true from decide_eq_true (by omega)]
      by_cases h2 : n - 1 = heard
      · have q2 : ((n - 1 : Int) == heard) = true := by simp [h2]
        simp only [show decide (n - 1 = heard) = true from decide_eq_true h2, if_true]
        clear h2
        replace H := Lib.hid H
        go_enter Try.func24, Try.ntmps24
        go_wp2_with fail
        refine wp_region_near (by kernel_rfl) (by kernel_rfl) ?_
        intro hs
        repeat (go_big_quiet_step (fail))
        refine wpQuiet_nil ?_
        clear hs
        intro w1 hb1
        obtain ⟨ck, fk⟩ := Below.blk hb1 (b := w.heap.size) (by first | (simp; done) | omega | (simp; omega))
        obtain ⟨cq, fq⟩ := Below.blk hb1 (b := q) (by first | (simp; done) | omega | (simp; omega))
        have z1 := hb1.size
        simp only [World.size_alloc] at z1
        have z2 : w.heap.size < w1.heap.size := by omega
        have z3 : q < w1.heap.size := by omega
        go_wp2_with fail
        refine wp_region_near (by kernel_rfl) (by kernel_rfl) ?_
        intro hs
        repeat (go_big_quiet_step (fail))
        refine wpQuiet_nil ?_
        clear hs
        intro w2 hb2
        obtain ⟨ck2, fk2⟩ := Below.blk hb2 (b := w.heap.size) (by first | (simp; done) | omega | (simp; omega))
        obtain ⟨cq2, fq2⟩ := Below.blk hb2 (b := q) (by first | (simp; done) | omega | (simp; omega))
        have z4 := hb2.size
        have z5 : w.heap.size < w2.heap.size := by omega
        have z6 : q < w2.heap.size := by omega
        have HE := ((line_shut (((H.out.thru hb1).thru hb2).set 0 rfl 3 (.int .i64 n) (by simp))).drop 1 rfl)
        replace HE := Lib.hid HE
        go_wp2_with fail
        go_ret2
        exact ⟨rfl, HE.out⟩
      · have q2 : ((n - 1 : Int) == heard) = false := by simp [h2]
        simp only [show decide (n - 1 = heard) = false from decide_eq_false h2, Bool.false_eq_true, if_false]
        have HE := (line_shut H).drop 1 rfl
        replace H := Lib.hid H; replace HE := Lib.hid HE
        go_enter Try.func24, Try.ntmps24
        go_wp2_with fail
        refine wp_region_near (by kernel_rfl) (by kernel_rfl) ?_
        intro hs
        repeat (go_big_quiet_step (fail))
        refine wpQuiet_nil ?_
        clear hs
        intro w1 hb1
        obtain ⟨ck, fk⟩ := Below.blk hb1 (b := w.heap.size) (by first | (simp; done) | omega | (simp; omega))
        obtain ⟨cq, fq⟩ := Below.blk hb1 (b := q) (by first | (simp; done) | omega | (simp; omega))
        have z1 := hb1.size
        simp only [World.size_alloc] at z1
        have z2 : w.heap.size < w1.heap.size := by omega
        have z3 : q < w1.heap.size := by omega
        go_wp2_with fail
        refine wp_region_near (by kernel_rfl) (by kernel_rfl) ?_
        intro hs
        repeat (go_big_quiet_step (fail))
        refine wpQuiet_nil ?_
        clear hs
        intro w2 hb2
        go_wp2_with fail
        go_ret2
        exact ⟨rfl, (HE.out.thru hb1).thru hb2⟩
end Go.Proofs.Ytljgmephajocaaa.Ctl
