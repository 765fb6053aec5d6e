/- The walks of the package hold, and of the document's answer for it. -/
import Derived.Test.YticcedempclapaaHoldPlain
import Derived.Deep.LoopGhost
import Derived.Deep.DeepCutAuto
namespace Go.Proofs.Yticcedempclapaa.Hold
open Go Go.RowKit Go.Proofs.Yticcedempclapaa

theorem held_any (n m : Int) (w : World) : Calls Try.prog 58 #[.int .i64 n, .int .i64 m] w (Ret w (.int .i64 (clamp n m))) := by
  go_enter Try.func58, Try.ntmps58
  go_wp2
  go_ret
  exact Ret.mk rfl (by repeat (first | with_reducible exact Below.refl _ _ | (with_reducible refine Below.al ?_) | (with_reducible refine Below.drew ?_) | (with_reducible refine Below.set ?_ (by first | (simp; done) | omega | (simp; omega))) | (with_reducible refine Below.thru ?_ (by assumption)) | (with_reducible refine Below.chg ?_ (by assumption) (by first | (simp; done) | omega | (simp; omega)))))
theorem rheld_any (n m : Int) (hm : 0 ≤ m) (w : World) : Calls Try.prog 57 #[.int .i64 n, .int .i64 m] w (Ret w (.int .i64 (clamp n m))) := by
  go_enter Try.func57, Try.ntmps57
  go_wp2
  all_goals
    go_ret
    exact Ret.mk (congrArg (Value.int .i64) (by unfold clamp; omega)) (by repeat (first | with_reducible exact Below.refl _ _ | (with_reducible refine Below.al ?_) | (with_reducible refine Below.drew ?_) | (with_reducible refine Below.set ?_ (by first | (simp; done) | omega | (simp; omega))) | (with_reducible refine Below.thru ?_ (by assumption)) | (with_reducible refine Below.chg ?_ (by assumption) (by first | (simp; done) | omega | (simp; omega)))))
theorem half_any (n : Int) (h0 : 0 ≤ n) (h1 : n ≤ 1000) (w : World) : Calls Try.prog 59 #[.int .i64 n] w (Ret w (.int .i64 ((n + 1) / 2))) := by
  go_enter Try.func59, Try.ntmps59
  go_wp2
  go_ret
  exact Ret.mk rfl (by repeat (first | with_reducible exact Below.refl _ _ | (with_reducible refine Below.al ?_) | (with_reducible refine Below.drew ?_) | (with_reducible refine Below.set ?_ (by first | (simp; done) | omega | (simp; omega))) | (with_reducible refine Below.thru ?_ (by assumption)) | (with_reducible refine Below.chg ?_ (by assumption) (by first | (simp; done) | omega | (simp; omega)))))

theorem min_any (x : Int) (l : List Int) (n : Nat) (hl : l.length + 1 = n) (hn : n ≤ maxLen) (a : Option Addr) (cap : Nat) (w : World) (h : Rd w a (i64s (x :: l))) :
    Calls Try.prog 60 #[.slice a n cap] w (Ret w (.int .i64 (l.foldl min x))) := by
  obtain ⟨b, off, rfl, hb, hc⟩ := h.cons (by simp [i64s])
  have h0 : w.cell? ⟨b, off, none⟩ = some (.int .i64 x) := hc 0 _ rfl
  have hC := Lib.hid hc
  clear hc h
  unfold maxLen at hn
  have hd : decide ((n : Int) < 1) = false := decide_eq_false (by omega)
  have hd0 : decide (0 < n) = true := decide_eq_true (by omega)
  go_enter Try.func60, Try.ntmps60
  go_wp2_with fail
  go_loopg [3, 4] (n - 1) (fun g m i wx => w = wx ∧ ∃ k : Nat, 1 ≤ k ∧ k ≤ n ∧ g = n - k ∧ i = .int .i64 k ∧ m = .int .i64 ((l.take (k - 1)).foldl min x))
  case atStart => exact ⟨rfl, 1, by omega, by omega, by omega, rfl, rfl⟩
  case round =>
    obtain ⟨rfl, k, hk1, hk, hg, rfl, rfl⟩ := hrel
    by_cases hlt : k < n
    · have hkl : k - 1 < l.length := by omega
      have hf := foldl_take' min x l k hk1 hkl
      have hcell : w.cell? ⟨b, off + k, none⟩ = some (.int .i64 l[k - 1]) := hC.out k _ (by
        have := i64s_at (l := x :: l) (i := k) (by simp; omega)
        rw [this, List.getElem_cons, dif_neg (by omega)])
      generalize l[k - 1] = y at *
      replace hf := Lib.hid hf
      go_wp2_with fail
      go_roundg (n - (k + 1))
      case measure => omega
      case rel => exact ⟨rfl, k + 1, by omega, by omega, rfl, by go_num, by rw [Nat.add_sub_cancel, hf.out]⟩
    · obtain rfl : k = n := by omega
      have ht : (l.take (k - 1)).foldl min x = l.foldl min x := by rw [List.take_of_length_le (by omega)]
      replace ht := Lib.hid ht
      go_wp2_with fail
      go_ret
      exact Ret.mk (by rw [← ht.out]; rfl) (by repeat (first | with_reducible exact Below.refl _ _ | (with_reducible refine Below.al ?_) | (with_reducible refine Below.drew ?_) | (with_reducible refine Below.set ?_ (by first | (simp; done) | omega | (simp; omega))) | (with_reducible refine Below.thru ?_ (by assumption)) | (with_reducible refine Below.chg ?_ (by assumption) (by first | (simp; done) | omega | (simp; omega)))))
theorem max_any (x : Int) (l : List Int) (n : Nat) (hl : l.length + 1 = n) (hn : n ≤ maxLen) (a : Option Addr) (cap : Nat) (w : World) (h : Rd w a (i64s (x :: l))) :
    Calls Try.prog 61 #[.slice a n cap] w (Ret w (.int .i64 (l.foldl max x))) := by
  obtain ⟨b, off, rfl, hb, hc⟩ := h.cons (by simp [i64s])
  have h0 : w.cell? ⟨b, off, none⟩ = some (.int .i64 x) := hc 0 _ rfl
  have hC := Lib.hid hc
  clear hc h
  unfold maxLen at hn
  have hd : decide ((n : Int) < 1) = false := decide_eq_false (by omega)
  have hd0 : decide (0 < n) = true := decide_eq_true (by omega)
  go_enter Try.func61, Try.ntmps61
  go_wp2_with fail
  go_loopg [3, 4] (n - 1) (fun g m i wx => w = wx ∧ ∃ k : Nat, 1 ≤ k ∧ k ≤ n ∧ g = n - k ∧ i = .int .i64 k ∧ m = .int .i64 ((l.take (k - 1)).foldl max x))
  case atStart => exact ⟨rfl, 1, by omega, by omega, by omega, rfl, rfl⟩
  case round =>
    obtain ⟨rfl, k, hk1, hk, hg, rfl, rfl⟩ := hrel
    by_cases hlt : k < n
    · have hkl : k - 1 < l.length := by omega
      have hf := foldl_take' max x l k hk1 hkl
      have hcell : w.cell? ⟨b, off + k, none⟩ = some (.int .i64 l[k - 1]) := hC.out k _ (by
        have := i64s_at (l := x :: l) (i := k) (by simp; omega)
        rw [this, List.getElem_cons, dif_neg (by omega)])
      generalize l[k - 1] = y at *
      replace hf := Lib.hid hf
      go_wp2_with fail
      go_roundg (n - (k + 1))
      case measure => omega
      case rel => exact ⟨rfl, k + 1, by omega, by omega, rfl, by go_num, by rw [Nat.add_sub_cancel, hf.out]⟩
    · obtain rfl : k = n := by omega
      have ht : (l.take (k - 1)).foldl max x = l.foldl max x := by rw [List.take_of_length_le (by omega)]
      replace ht := Lib.hid ht
      go_wp2_with fail
      go_ret
      exact Ret.mk (by rw [← ht.out]; rfl) (by repeat (first | with_reducible exact Below.refl _ _ | (with_reducible refine Below.al ?_) | (with_reducible refine Below.drew ?_) | (with_reducible refine Below.set ?_ (by first | (simp; done) | omega | (simp; omega))) | (with_reducible refine Below.thru ?_ (by assumption)) | (with_reducible refine Below.chg ?_ (by assumption) (by first | (simp; done) | omega | (simp; omega)))))

theorem ends_any (l : List Int) (n : Nat) (hl : l.length = n) (hn : n ≤ maxLen) (a : Option Addr) (cap : Nat) (w : World) (h : Rd w a (i64s l)) :
    Calls Try.prog 55 #[.slice a n cap] w (Ret w (.tuple #[.int .i64 (leastF l), .int .i64 (mostF l)])) := by
  match l, hl, h with
  | [], hl, h =>
    obtain rfl : n = 0 := by simpa using hl.symm
    clear hl h
    go_enter Try.func55, Try.ntmps55
    go_wp2_with fail
    go_ret2
    exact Ret.mk rfl (by repeat (first | with_reducible exact Below.refl _ _ | (with_reducible refine Below.al ?_) | (with_reducible refine Below.drew ?_) | (with_reducible refine Below.set ?_ (by first | (simp; done) | omega | (simp; omega))) | (with_reducible refine Below.thru ?_ (by assumption)) | (with_reducible refine Below.chg ?_ (by assumption) (by first | (simp; done) | omega | (simp; omega)))))
  | x :: l, hl, h =>
    have hl' : l.length + 1 = n := by simpa using hl
    have hne : ((n : Int) == 0) = false := by simp; omega
    have e1 := least_cons x l
    have e2 := most_cons x l
    clear hl
    replace hl' := Lib.hid hl'; replace e1 := Lib.hid e1; replace e2 := Lib.hid e2
    go_enter Try.func55, Try.ntmps55
    go_wp2_with fail
    refine Calls.mono (min_any x l n hl'.out hn _ cap _ h) ?_
    rintro e w1 ⟨rfl, hb1⟩
    have z1 := Below.size hb1; try simp only [World.size_alloc, World.size_setCell, World.size_drew] at z1
    go_wp2_with fail
    refine Calls.mono (held_any _ _ _) ?_
    rintro e w2 ⟨rfl, hb2⟩
    have z2 := Below.size hb2; try simp only [World.size_alloc, World.size_setCell, World.size_drew] at z2
    go_wp2_with fail
    refine Calls.mono (max_any x l n hl'.out hn _ cap _ ((h.below hb1).below hb2)) ?_
    rintro e w3 ⟨rfl, hb3⟩
    have z3 := Below.size hb3; try simp only [World.size_alloc, World.size_setCell, World.size_drew] at z3
    go_wp2_with fail
    refine Calls.mono (held_any _ _ _) ?_
    rintro e w4 ⟨rfl, hb4⟩
    have z4 := Below.size hb4; try simp only [World.size_alloc, World.size_setCell, World.size_drew] at z4
    go_wp2_with fail
    go_ret2
    exact Ret.mk (by rw [← e1.out, ← e2.out]; rfl) (by repeat (first | with_reducible exact Below.refl _ _ | (with_reducible refine Below.al ?_) | (with_reducible refine Below.drew ?_) | (with_reducible refine Below.set ?_ (by first | (simp; done) | omega | (simp; omega))) | (with_reducible refine Below.thru ?_ (by assumption)) | (with_reducible refine Below.chg ?_ (by assumption) (by first | (simp; done) | omega | (simp; omega)))))
theorem apart_any (l : List Int) (n : Nat) (hl : l.length = n) (hn : n ≤ maxLen) (a : Option Addr) (cap : Nat) (w : World) (h : Rd w a (i64s l)) :
    Calls Try.prog 47 #[.slice a n cap] w (Ret w (.int .i64 (apartF l))) := by
  obtain ⟨m0, m1⟩ := most_bd l
  obtain ⟨l0, l1⟩ := least_bd l
  replace hl := Lib.hid hl
  go_enter Try.func47, Try.ntmps47
  go_wp2_with fail
  refine Calls.mono (ends_any l n hl.out hn _ cap _ h) ?_
  rintro e w1 ⟨rfl, hb1⟩
  have z1 := Below.size hb1; try simp only [World.size_alloc, World.size_setCell, World.size_drew] at z1
  go_wp2_with fail
  go_ret
  exact Ret.mk rfl (by repeat (first | with_reducible exact Below.refl _ _ | (with_reducible refine Below.al ?_) | (with_reducible refine Below.drew ?_) | (with_reducible refine Below.set ?_ (by first | (simp; done) | omega | (simp; omega))) | (with_reducible refine Below.thru ?_ (by assumption)) | (with_reducible refine Below.chg ?_ (by assumption) (by first | (simp; done) | omega | (simp; omega)))))
end Go.Proofs.Yticcedempclapaa.Hold
