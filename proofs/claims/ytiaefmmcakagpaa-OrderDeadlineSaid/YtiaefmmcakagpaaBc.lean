/- Texts that belong together, one behind another. -/
import Derived.Test.YtiaefmmcakagpaaBa
import Derived.Deep.LoopGhost
import Derived.Deep.DeepCutAuto
import Derived.Test.YtiaefmmcakagpaaBb
/- How long one waits: the numbers. -/
namespace Go.Proofs.Ytiaefmmcakagpaa.Hold
set_option linter.unusedSimpArgs false
set_option linter.unusedVariables false
open Go Go.RowKit Go.Proofs.Ytiaefmmcakagpaa

def clamp (n m : Int) : Int := min (max n 0) m
def mostF (l : List Int) : Int := l.foldl (fun m x => max m (clamp x 64)) 0
def leastF (l : List Int) : Int := l.foldl (fun m x => min m (clamp x 64)) (mostF l)
def apartF (l : List Int) : Int := mostF l - leastF l
def gapF (mode own : Int) (l : List Int) : Int := if mode = 1 then apartF l else if mode = 2 then max (mostF l - clamp own 64) 0 else 0
def forF (mode hold own : Int) (l : List Int) : Int := if mode < 0 ∨ 2 < mode then 0 else min (clamp hold 60 + (gapF mode own l + 1) / 2) 60

theorem clamp_bd (n : Int) : 0 ≤ clamp n 64 ∧ clamp n 64 ≤ 64 := by unfold clamp; omega
theorem fold_max_bd (l : List Int) : ∀ m : Int, 0 ≤ m → m ≤ 64 → m ≤ l.foldl (fun m x => max m (clamp x 64)) m ∧ l.foldl (fun m x => max m (clamp x 64)) m ≤ 64 := by
  induction l with
  | nil => intro m h0 h1; simp; omega
  | cons x l ih => intro m h0 h1; have := clamp_bd x; have := ih (max m (clamp x 64)) (by omega) (by omega); simp only [List.foldl_cons]; omega
theorem fold_min_bd (l : List Int) : ∀ m : Int, 0 ≤ m → 0 ≤ l.foldl (fun m x => min m (clamp x 64)) m ∧ l.foldl (fun m x => min m (clamp x 64)) m ≤ m := by
  induction l with
  | nil => intro m h0; simp; omega
  | cons x l ih => intro m h0; have := clamp_bd x; have := ih (min m (clamp x 64)) (by omega); simp only [List.foldl_cons]; omega
theorem most_bd (l : List Int) : 0 ≤ mostF l ∧ mostF l ≤ 64 := fold_max_bd l 0 (by omega) (by omega)
theorem least_bd (l : List Int) : 0 ≤ leastF l ∧ leastF l ≤ mostF l := fold_min_bd l _ (most_bd l).1
theorem apart_bd (l : List Int) : 0 ≤ apartF l ∧ apartF l ≤ 64 := by have := most_bd l; have := least_bd l; unfold apartF; omega

theorem clamp_fold_max (l : List Int) : ∀ x : Int, clamp (l.foldl max x) 64 = l.foldl (fun m x => max m (clamp x 64)) (clamp x 64) := by
  induction l with
  | nil => intro x; rfl
  | cons y l ih => intro x; simp only [List.foldl_cons]; rw [ih]; congr 1; unfold clamp; omega
theorem clamp_fold_min (l : List Int) : ∀ x : Int, clamp (l.foldl min x) 64 = l.foldl (fun m x => min m (clamp x 64)) (clamp x 64) := by
  induction l with
  | nil => intro x; rfl
  | cons y l ih => intro x; simp only [List.foldl_cons]; rw [ih]; congr 1; unfold clamp; omega
theorem most_cons (x : Int) (l : List Int) : clamp (l.foldl max x) 64 = mostF (x :: l) := by
  rw [clamp_fold_max]; unfold mostF; simp only [List.foldl_cons]; congr 1; have := clamp_bd x; omega
theorem least_cons (x : Int) (l : List Int) : clamp (l.foldl min x) 64 = leastF (x :: l) := by
  rw [clamp_fold_min]; unfold leastF; simp only [List.foldl_cons]; congr 1
  have h := most_cons x l
  rw [clamp_fold_max] at h
  have := clamp_bd x
  have := fold_max_bd l (clamp x 64) (by omega) (by omega)
  omega
end Go.Proofs.Ytiaefmmcakagpaa.Hold

/- The walks of the package hold, and of the document's answer for it. -/
namespace Go.Proofs.Ytiaefmmcakagpaa.Hold
set_option linter.unusedSimpArgs false
set_option linter.unusedVariables false
open Go Go.RowKit Go.Proofs.Ytiaefmmcakagpaa

theorem held_any (n m : Int) (w : World) : Calls Try.prog 83 #[.int .i64 n, .int .i64 m] w (Ret w (.int .i64 (clamp n m))) := by
  go_enter Try.func83, Try.ntmps83
  go_wp2
  go_ret
  exact Ret.mk rfl (by repeat (first | with_reducible exact Below.refl _ _ | (with_reducible refine Below.al ?_) | (with_reducible refine Below.drew ?_) | (with_reducible refine Below.set ?_ (by first | (simp; done) | omega | (simp; omega))) | (with_reducible refine Below.thru ?_ (by assumption)) | (with_reducible refine Below.chg ?_ (by assumption) (by first | (simp; done) | omega | (simp; omega)))))
theorem rheld_any (n m : Int) (hm : 0 ≤ m) (w : World) : Calls Try.prog 115 #[.int .i64 n, .int .i64 m] w (Ret w (.int .i64 (clamp n m))) := by
  go_enter Try.func115, Try.ntmps115
  go_wp2
  all_goals
    go_ret
    exact Ret.mk (congrArg (Value.int .i64) (by unfold clamp; omega)) (by repeat (first | with_reducible exact Below.refl _ _ | (with_reducible refine Below.al ?_) | (with_reducible refine Below.drew ?_) | (with_reducible refine Below.set ?_ (by first | (simp; done) | omega | (simp; omega))) | (with_reducible refine Below.thru ?_ (by assumption)) | (with_reducible refine Below.chg ?_ (by assumption) (by first | (simp; done) | omega | (simp; omega)))))
theorem half_any (n : Int) (h0 : 0 ≤ n) (h1 : n ≤ 1000) (w : World) : Calls Try.prog 84 #[.int .i64 n] w (Ret w (.int .i64 ((n + 1) / 2))) := by
  go_enter Try.func84, Try.ntmps84
  go_wp2
  go_ret
  exact Ret.mk rfl (by repeat (first | with_reducible exact Below.refl _ _ | (with_reducible refine Below.al ?_) | (with_reducible refine Below.drew ?_) | (with_reducible refine Below.set ?_ (by first | (simp; done) | omega | (simp; omega))) | (with_reducible refine Below.thru ?_ (by assumption)) | (with_reducible refine Below.chg ?_ (by assumption) (by first | (simp; done) | omega | (simp; omega)))))

theorem min_any (x : Int) (l : List Int) (n : Nat) (hl : l.length + 1 = n) (hn : n ≤ maxLen) (a : Option Addr) (cap : Nat) (w : World) (h : Rd w a (i64s (x :: l))) :
    Calls Try.prog 107 #[.slice a n cap] w (Ret w (.int .i64 (l.foldl min x))) := by
  obtain ⟨b, off, rfl, hb, hc⟩ := h.cons (by simp [i64s])
  have h0 : w.cell? ⟨b, off, none⟩ = some (.int .i64 x) := hc 0 _ rfl
  have hC := Lib.hid hc
  clear hc h
  unfold maxLen at hn
  have hd : decide ((n : Int) < 1) = false := decide_eq_false (by omega)
  have hd0 : decide (0 < n) = true := decide_eq_true (by omega)
  go_enter Try.func107, Try.ntmps107
  go_wp2_with fail
  go_loopg [3, 4] (n - 1) (fun g m i wx => w = wx ∧ ∃ k : Nat, 1 ≤ k ∧ k ≤ n ∧ g = n - k ∧ i = .int .i64 k ∧ m = .int .i64 ((l.take (k - 1)).foldl min x))
  case atStart => exact ⟨rfl, 1, by omega, by omega, by omega, rfl, rfl⟩
  case round =>
    obtain ⟨rfl, k, hk1, hk, hg, rfl, rfl⟩ := hrel
    by_cases hlt : k < n
    · have hkl : k - 1 < l.length := by omega
      have hf := foldl_take' min x l k hk1 hkl
      have hcell : w.cell? ⟨b, off + k, none⟩ = some (.int .i64 l[k - 1]) := hC.out k _ (by
        have := i64s_at (l := x :: l) (i := k) (by simp; omega)
        rw [this, List.getElem_cons, dif_neg (by omega)])
      generalize l[k - 1] = y at *
      replace hf := Lib.hid hf
      go_wp2_with fail
      go_roundg (n - (k + 1))
      case measure => omega
      case rel => exact ⟨rfl, k + 1, by omega, by omega, rfl, by go_num, by rw [Nat.add_sub_cancel, hf.out]⟩
    · obtain rfl : k = n := by omega
      have ht : (l.take (k - 1)).foldl min x = l.foldl min x := by rw [List.take_of_length_le (by omega)]
      replace ht := Lib.hid ht
      go_wp2_with fail
      go_ret
      exact Ret.mk (by rw [← ht.out]; rfl) (by repeat (first | with_reducible exact Below.refl _ _ | (with_reducible refine Below.al ?_) | (with_reducible refine Below.drew ?_) | (with_reducible refine Below.set ?_ (by first | (simp; done) | omega | (simp; omega))) | (with_reducible refine Below.thru ?_ (by assumption)) | (with_reducible refine Below.chg ?_ (by assumption) (by first | (simp; done) | omega | (simp; omega)))))
theorem max_any (x : Int) (l : List Int) (n : Nat) (hl : l.length + 1 = n) (hn : n ≤ maxLen) (a : Option Addr) (cap : Nat) (w : World) (h : Rd w a (i64s (x :: l))) :
    Calls Try.prog 108 #[.slice a n cap] w (Ret w (.int .i64 (l.foldl max x))) := by
  obtain ⟨b, off, rfl, hb, hc⟩ := h.cons (by simp [i64s])
  have h0 : w.cell? ⟨b, off, none⟩ = some (.int .i64 x) := hc 0 _ rfl
  have hC := Lib.hid hc
  clear hc h
  unfold maxLen at hn
  have hd : decide ((n : Int) < 1) = false := decide_eq_false (by omega)
  have hd0 : decide (0 < n) = true := decide_eq_true (by omega)
  go_enter Try.func108, Try.ntmps108
  go_wp2_with fail
  go_loopg [3, 4] (n - 1) (fun g m i wx => w = wx ∧ ∃ k : Nat, 1 ≤ k ∧ k ≤ n ∧ g = n - k ∧ i = .int .i64 k ∧ m = .int .i64 ((l.take (k - 1)).foldl max x))
  case atStart => exact ⟨rfl, 1, by omega, by omega, by omega, rfl, rfl⟩
  case round =>
    obtain ⟨rfl, k, hk1, hk, hg, rfl, rfl⟩ := hrel
    by_cases hlt : k < n
    · have hkl : k - 1 < l.length := by omega
      have hf := foldl_take' max x l k hk1 hkl
      have hcell : w.cell? ⟨b, off + k, none⟩ = some (.int .i64 l[k - 1]) := hC.out k _ (by
        have := i64s_at (l := x :: l) (i := k) (by simp; omega)
        rw [this, List.getElem_cons, dif_neg (by omega)])
      generalize l[k - 1] = y at *
      replace hf := Lib.hid hf
      go_wp2_with fail
      go_roundg (n - (k + 1))
      case measure => omega
      case rel => exact ⟨rfl, k + 1, by omega, by omega, rfl, by go_num, by rw [Nat.add_sub_cancel, hf.out]⟩
    · obtain rfl : k = n := by omega
      have ht : (l.take (k - 1)).foldl max x = l.foldl max x := by rw [List.take_of_length_le (by omega)]
      replace ht := Lib.hid ht
      go_wp2_with fail
      go_ret
      exact Ret.mk (by rw [← ht.out]; rfl) (by repeat (first | with_reducible exact Below.refl _ _ | (with_reducible refine Below.al ?_) | (with_reducible refine Below.drew ?_) | (with_reducible refine Below.set ?_ (by first | (simp; done) | omega | (simp; omega))) | (with_reducible refine Below.thru ?_ (by assumption)) | (with_reducible refine Below.chg ?_ (by assumption) (by first | (simp; done) | omega | (simp; omega)))))

theorem ends_any (l : List Int) (n : Nat) (hl : l.length = n) (hn : n ≤ maxLen) (a : Option Addr) (cap : Nat) (w : World) (h : Rd w a (i64s l)) :
    Calls Try.prog 86 #[.slice a n cap] w (Ret w (.tuple #[.int .i64 (leastF l), .int .i64 (mostF l)])) := by
  match l, hl, h with
  | [], hl, h =>
    obtain rfl : n = 0 := by simpa using hl.symm
    clear hl h
    go_enter Try.func86, Try.ntmps86
    go_wp2_with fail
    go_ret2
    exact Ret.mk rfl (by repeat (first | with_reducible exact Below.refl _ _ | (with_reducible refine Below.al ?_) | (with_reducible refine Below.drew ?_) | (with_reducible refine Below.set ?_ (by first | (simp; done) | omega | (simp; omega))) | (with_reducible refine Below.thru ?_ (by assumption)) | (with_reducible refine Below.chg ?_ (by assumption) (by first | (simp; done) | omega | (simp; omega)))))
  | x :: l, hl, h =>
    have hl' : l.length + 1 = n := by simpa using hl
    have hne : ((n : Int) == 0) = false := by simp; omega
    have e1 := least_cons x l
    have e2 := most_cons x l
    clear hl
    replace hl' := Lib.hid hl'; replace e1 := Lib.hid e1; replace e2 := Lib.hid e2
    go_enter Try.func86, Try.ntmps86
    go_wp2_with fail
    refine Calls.mono (min_any x l n hl'.out hn _ cap _ h) ?_
    rintro e w1 ⟨rfl, hb1⟩
    have z1 := Below.size hb1; try simp only [World.size_alloc, World.size_setCell, World.size_drew] at z1
    go_wp2_with fail
    refine Calls.mono (held_any _ _ _) ?_
    rintro e w2 ⟨rfl, hb2⟩
    have z2 := Below.size hb2; try simp only [World.size_alloc, World.size_setCell, World.size_drew] at z2
    go_wp2_with fail
    refine Calls.mono (max_any x l n hl'.out hn _ cap _ ((h.below hb1).below hb2)) ?_
    rintro e w3 ⟨rfl, hb3⟩
    have z3 := Below.size hb3; try simp only [World.size_alloc, World.size_setCell, World.size_drew] at z3
    go_wp2_with fail
    refine Calls.mono (held_any _ _ _) ?_
    rintro e w4 ⟨rfl, hb4⟩
    have z4 := Below.size hb4; try simp only [World.size_alloc, World.size_setCell, World.size_drew] at z4
    go_wp2_with fail
    go_ret2
    exact Ret.mk (by rw [← e1.out, ← e2.out]; rfl) (by repeat (first | with_reducible exact Below.refl _ _ | (with_reducible refine Below.al ?_) | (with_reducible refine Below.drew ?_) | (with_reducible refine Below.set ?_ (by first | (simp; done) | omega | (simp; omega))) | (with_reducible refine Below.thru ?_ (by assumption)) | (with_reducible refine Below.chg ?_ (by assumption) (by first | (simp; done) | omega | (simp; omega)))))
theorem apart_any (l : List Int) (n : Nat) (hl : l.length = n) (hn : n ≤ maxLen) (a : Option Addr) (cap : Nat) (w : World) (h : Rd w a (i64s l)) :
    Calls Try.prog 85 #[.slice a n cap] w (Ret w (.int .i64 (apartF l))) := by
  obtain ⟨m0, m1⟩ := most_bd l
  obtain ⟨l0, l1⟩ := least_bd l
  replace hl := Lib.hid hl
  go_enter Try.func85, Try.ntmps85
  go_wp2_with fail
  refine Calls.mono (ends_any l n hl.out hn _ cap _ h) ?_
  rintro e w1 ⟨rfl, hb1⟩
  have z1 := Below.size hb1; try simp only [World.size_alloc, World.size_setCell, World.size_drew] at z1
  go_wp2_with fail
  go_ret
  exact Ret.mk rfl (by repeat (first | with_reducible exact Below.refl _ _ | (with_reducible refine Below.al ?_) | (with_reducible refine Below.drew ?_) | (with_reducible refine Below.set ?_ (by first | (simp; done) | omega | (simp; omega))) | (with_reducible refine Below.thru ?_ (by assumption)) | (with_reducible refine Below.chg ?_ (by assumption) (by first | (simp; done) | omega | (simp; omega)))))
end Go.Proofs.Ytiaefmmcakagpaa.Hold

/- The walks of the waits: For and Check, and the document's. -/
namespace Go.Proofs.Ytiaefmmcakagpaa.Hold
set_option linter.unusedSimpArgs false
set_option linter.unusedVariables false
open Go Go.RowKit Go.Proofs.Ytiaefmmcakagpaa

theorem rmost_any (l : List Int) (n : Nat) (hl : l.length = n) (hn : n ≤ maxLen) (a : Option Addr) (cap : Nat) (w : World) (h : Rd w a (i64s l)) :
    Calls Try.prog 117 #[.slice a n cap] w (Ret w (.int .i64 (mostF l))) := by
  unfold maxLen at hn
  have H := Lib.hid h
  have HL := Lib.hid hl
  clear h hl
  go_enter Try.func117, Try.ntmps117
  go_wp2_with fail
  go_loopg [3, 4] n (fun g m i wr => ∃ k : Nat, k ≤ n ∧ g = n - k ∧ i = .int .i64 k ∧ m = .int .i64 ((l.take k).foldl (fun m x => max m (clamp x 64)) 0) ∧ Below w.heap.size w wr)
  case atStart => exact ⟨0, by omega, by omega, rfl, rfl, Below.refl _ _⟩
  case round =>
    obtain ⟨k, hk, hg, rfl, rfl, hbw⟩ := hrel
    by_cases hlt : k < n
    · have hkl : k < l.length := by have := HL.out; omega
      have hf := foldl_take (fun m x => max m (clamp x 64)) 0 l k hkl
      obtain ⟨b, off, rfl, hb, hc⟩ := H.out.cons (by intro e; have := congrArg List.length e; simp [i64s] at this; subst this; simp at hkl)
      have hcell : wr.cell? ⟨b, off + k, none⟩ = some (.int .i64 l[k]) := ((Below.blk hbw hb).1 _).trans (hc k _ (i64s_at hkl))
      clear hc
      generalize l[k] = y at *
      replace hf := Lib.hid hf
      go_wp2_with fail
      refine Calls.mono (rheld_any _ _ (by omega) _) ?_
      rintro e w5 ⟨rfl, hb5⟩
      have z5 := Below.size hb5; try simp only [World.size_alloc, World.size_setCell, World.size_drew] at z5
      go_wp2_with fail
      go_roundg (n - (k + 1))
      case measure => omega
      case rel => exact ⟨k + 1, by omega, rfl, by go_num, by rw [hf.out], (by repeat (first | with_reducible exact Below.refl _ _ | (with_reducible refine Below.al ?_) | (with_reducible refine Below.drew ?_) | (with_reducible refine Below.set ?_ (by first | (simp; done) | omega | (simp; omega))) | (with_reducible refine Below.thru ?_ (by assumption)) | (with_reducible refine Below.chg ?_ (by assumption) (by first | (simp; done) | omega | (simp; omega)))))⟩
    · obtain rfl : k = n := by omega
      have ht : (l.take k).foldl (fun m x => max m (clamp x 64)) 0 = mostF l := by rw [List.take_of_length_le (by have := HL.out; omega)]; rfl
      replace ht := Lib.hid ht
      go_wp2_with fail
      go_ret
      exact Ret.mk (by rw [← ht.out]; rfl) (by repeat (first | with_reducible exact Below.refl _ _ | (with_reducible refine Below.al ?_) | (with_reducible refine Below.drew ?_) | (with_reducible refine Below.set ?_ (by first | (simp; done) | omega | (simp; omega))) | (with_reducible refine Below.thru ?_ (by assumption)) | (with_reducible refine Below.chg ?_ (by assumption) (by first | (simp; done) | omega | (simp; omega)))))

theorem rapart_any (l : List Int) (n : Nat) (hl : l.length = n) (hn : n ≤ maxLen) (a : Option Addr) (cap : Nat) (w : World) (h : Rd w a (i64s l)) :
    Calls Try.prog 116 #[.slice a n cap] w (Ret w (.int .i64 (apartF l))) := by
  obtain ⟨m0, m1⟩ := most_bd l
  obtain ⟨l0, l1⟩ := least_bd l
  have hn' := hn
  unfold maxLen at hn
  have H := Lib.hid h
  have HL := Lib.hid hl
  clear h hl
  go_enter Try.func116, Try.ntmps116
  go_wp2_with fail
  refine Calls.mono (rmost_any l n HL.out hn' a cap _ H.out) ?_
  rintro e w1 ⟨rfl, hb1⟩
  have z1 := Below.size hb1; try simp only [World.size_alloc, World.size_setCell, World.size_drew] at z1
  go_wp2_with fail
  go_loopg [3, 4] n (fun g m i wr => ∃ k : Nat, k ≤ n ∧ g = n - k ∧ i = .int .i64 k ∧ m = .int .i64 ((l.take k).foldl (fun m x => min m (clamp x 64)) (mostF l)) ∧ Below w.heap.size w wr)
  case atStart => exact ⟨0, by omega, by omega, rfl, rfl, hb1⟩
  case round =>
    obtain ⟨k, hk, hg, rfl, rfl, hbw⟩ := hrel
    by_cases hlt : k < n
    · have hkl : k < l.length := by have := HL.out; omega
      have hf := foldl_take (fun m x => min m (clamp x 64)) (mostF l) l k hkl
      obtain ⟨b, off, rfl, hb, hc⟩ := H.out.cons (by intro e; have := congrArg List.length e; simp [i64s] at this; subst this; simp at hkl)
      have hcell : wr.cell? ⟨b, off + k, none⟩ = some (.int .i64 l[k]) := ((Below.blk hbw hb).1 _).trans (hc k _ (i64s_at hkl))
      clear hc
      generalize l[k] = y at *
      replace hf := Lib.hid hf
      go_wp2_with fail
      refine Calls.mono (rheld_any _ _ (by omega) _) ?_
      rintro e w5 ⟨rfl, hb5⟩
      have z5 := Below.size hb5; try simp only [World.size_alloc, World.size_setCell, World.size_drew] at z5
      go_wp2_with fail
      go_roundg (n - (k + 1))
      case measure => omega
      case rel => exact ⟨k + 1, by omega, rfl, by go_num, by rw [hf.out], (by repeat (first | with_reducible exact Below.refl _ _ | (with_reducible refine Below.al ?_) | (with_reducible refine Below.drew ?_) | (with_reducible refine Below.set ?_ (by first | (simp; done) | omega | (simp; omega))) | (with_reducible refine Below.thru ?_ (by assumption)) | (with_reducible refine Below.chg ?_ (by assumption) (by first | (simp; done) | omega | (simp; omega)))))⟩
    · obtain rfl : k = n := by omega
      have ht : (l.take k).foldl (fun m x => min m (clamp x 64)) (mostF l) = leastF l := by rw [List.take_of_length_le (by have := HL.out; omega)]; rfl
      rw [ht]
      replace ht := Lib.hid ht
      go_wp2_with fail
      refine Calls.mono (rmost_any l k HL.out hn' a cap _ (H.out.below hbw)) ?_
      rintro e w2 ⟨rfl, hb2⟩
      have z2 := Below.size hb2; try simp only [World.size_alloc, World.size_setCell, World.size_drew] at z2
      go_wp2_with fail
      go_ret
      exact Ret.mk rfl (by repeat (first | with_reducible exact Below.refl _ _ | (with_reducible refine Below.al ?_) | (with_reducible refine Below.drew ?_) | (with_reducible refine Below.set ?_ (by first | (simp; done) | omega | (simp; omega))) | (with_reducible refine Below.thru ?_ (by assumption)) | (with_reducible refine Below.chg ?_ (by assumption) (by first | (simp; done) | omega | (simp; omega)))))

def checkF (mode hold : Int) : Int := if mode < 0 ∨ 2 < mode then 7 else if hold < 0 ∨ 60 < hold then 3 else 0
theorem check_any (mode hold : Int) (w : World) : Calls Try.prog 46 #[.agg #[.int .i64 mode, .int .i64 hold]] w (Ret w (.int .i64 (checkF mode hold))) := by
  go_enter Try.func46, Try.ntmps46
  go_wp2_with fail
  all_goals
    go_ret
    exact Ret.mk (congrArg (Value.int .i64) (by unfold checkF; (repeat' split) <;> omega)) (by repeat (first | with_reducible exact Below.refl _ _ | (with_reducible refine Below.al ?_) | (with_reducible refine Below.drew ?_) | (with_reducible refine Below.set ?_ (by first | (simp; done) | omega | (simp; omega))) | (with_reducible refine Below.thru ?_ (by assumption)) | (with_reducible refine Below.chg ?_ (by assumption) (by first | (simp; done) | omega | (simp; omega)))))

theorem clamp60 (n : Int) : 0 ≤ clamp n 60 ∧ clamp n 60 ≤ 60 := by unfold clamp; omega
theorem for_any (mode hold own : Int) (l : List Int) (n : Nat) (hl : l.length = n) (hn : n ≤ maxLen) (a : Option Addr) (cap : Nat) (w : World) (h : Rd w a (i64s l)) :
    Calls Try.prog 48 #[.agg #[.int .i64 mode, .int .i64 hold], .int .i64 own, .slice a n cap] w (Ret w (.int .i64 (forF mode hold own l))) := by
  obtain ⟨c0, c1⟩ := clamp60 hold
  obtain ⟨o0, o1⟩ := clamp_bd own
  obtain ⟨m0, m1⟩ := most_bd l
  obtain ⟨p0, p1⟩ := apart_bd l
  have H := Lib.hid h
  have HL := Lib.hid hl
  clear h hl
  by_cases e0 : mode = 0
  · subst e0
    have hf : forF 0 hold own l = min (clamp hold 60) 60 := by simp [forF, gapF]
    rw [hf]
    clear hf
    go_enter Try.func48, Try.ntmps48
    go_wp2_with fail
    refine Calls.mono (held_any _ _ _) ?_
    rintro e w1 ⟨rfl, hb1⟩
    have z1 := Below.size hb1; try simp only [World.size_alloc, World.size_setCell, World.size_drew] at z1
    obtain ⟨c1_0, f1_0⟩ := Below.blk hb1 (b := w.heap.size) (by first | (simp; done) | omega | (simp; omega))
    have z1_0 : w.heap.size < w1.heap.size := (by first | (simp; done) | omega | (simp; omega))
    go_wp2_with fail
    go_ret
    exact Ret.mk rfl (by repeat (first | with_reducible exact Below.refl _ _ | (with_reducible refine Below.al ?_) | (with_reducible refine Below.drew ?_) | (with_reducible refine Below.set ?_ (by first | (simp; done) | omega | (simp; omega))) | (with_reducible refine Below.thru ?_ (by assumption)) | (with_reducible refine Below.chg ?_ (by assumption) (by first | (simp; done) | omega | (simp; omega)))))
  · by_cases e1 : mode = 1
    · subst e1
      have hf : forF 1 hold own l = min (clamp hold 60 + (apartF l + 1) / 2) 60 := by simp [forF, gapF]
      rw [hf]
      clear hf
      go_enter Try.func48, Try.ntmps48
      go_wp2_with fail
      refine Calls.mono (held_any _ _ _) ?_
      rintro e w1 ⟨rfl, hb1⟩
      have z1 := Below.size hb1; try simp only [World.size_alloc, World.size_setCell, World.size_drew] at z1
      obtain ⟨c1_0, f1_0⟩ := Below.blk hb1 (b := w.heap.size) (by first | (simp; done) | omega | (simp; omega))
      have z1_0 : w.heap.size < w1.heap.size := (by first | (simp; done) | omega | (simp; omega))
      have hR : Rd w1 a (i64s l) := H.out.below (by repeat (first | with_reducible exact Below.refl _ _ | (with_reducible refine Below.al ?_) | (with_reducible refine Below.drew ?_) | (with_reducible refine Below.set ?_ (by first | (simp; done) | omega | (simp; omega))) | (with_reducible refine Below.thru ?_ (by assumption)) | (with_reducible refine Below.chg ?_ (by assumption) (by first | (simp; done) | omega | (simp; omega)))))
      replace hR := Lib.hid hR
      go_wp2_with fail
      refine Calls.mono (apart_any l n HL.out hn a cap _ hR.out) ?_
      rintro e w2 ⟨rfl, hb2⟩
      have z2 := Below.size hb2; try simp only [World.size_alloc, World.size_setCell, World.size_drew] at z2
      obtain ⟨c2_0, f2_0⟩ := Below.blk hb2 (b := w.heap.size) (by first | (simp; done) | omega | (simp; omega))
      have z2_0 : w.heap.size < w2.heap.size := (by first | (simp; done) | omega | (simp; omega))
      go_wp2_with fail
      refine Calls.mono (half_any _ (by omega) (by omega) _) ?_
      rintro e w3 ⟨rfl, hb3⟩
      have z3 := Below.size hb3; try simp only [World.size_alloc, World.size_setCell, World.size_drew] at z3
      obtain ⟨c3_0, f3_0⟩ := Below.blk hb3 (b := w.heap.size) (by first | (simp; done) | omega | (simp; omega))
      have z3_0 : w.heap.size < w3.heap.size := (by first | (simp; done) | omega | (simp; omega))
      go_wp2_with fail
      go_ret
      exact Ret.mk rfl (by repeat (first | with_reducible exact Below.refl _ _ | (with_reducible refine Below.al ?_) | (with_reducible refine Below.drew ?_) | (with_reducible refine Below.set ?_ (by first | (simp; done) | omega | (simp; omega))) | (with_reducible refine Below.thru ?_ (by assumption)) | (with_reducible refine Below.chg ?_ (by assumption) (by first | (simp; done) | omega | (simp; omega)))))
    · by_cases e2 : mode = 2
      · subst e2
        have hf : forF 2 hold own l = min (clamp hold 60 + (max (mostF l - clamp own 64) 0 + 1) / 2) 60 := by simp [forF, gapF]
        rw [hf]
        clear hf
        go_enter Try.func48, Try.ntmps48
        go_wp2_with fail
        refine Calls.mono (held_any _ _ _) ?_
        rintro e w1 ⟨rfl, hb1⟩
        have z1 := Below.size hb1; try simp only [World.size_alloc, World.size_setCell, World.size_drew] at z1
        obtain ⟨c1_0, f1_0⟩ := Below.blk hb1 (b := w.heap.size) (by first | (simp; done) | omega | (simp; omega))
        have z1_0 : w.heap.size < w1.heap.size := (by first | (simp; done) | omega | (simp; omega))
        have hR : Rd w1 a (i64s l) := H.out.below (by repeat (first | with_reducible exact Below.refl _ _ | (with_reducible refine Below.al ?_) | (with_reducible refine Below.drew ?_) | (with_reducible refine Below.set ?_ (by first | (simp; done) | omega | (simp; omega))) | (with_reducible refine Below.thru ?_ (by assumption)) | (with_reducible refine Below.chg ?_ (by assumption) (by first | (simp; done) | omega | (simp; omega)))))
        replace hR := Lib.hid hR
        go_wp2_with fail
        refine Calls.mono (ends_any l n HL.out hn a cap _ hR.out) ?_
        rintro e w2 ⟨rfl, hb2⟩
        have z2 := Below.size hb2; try simp only [World.size_alloc, World.size_setCell, World.size_drew] at z2
        obtain ⟨c2_0, f2_0⟩ := Below.blk hb2 (b := w.heap.size) (by first | (simp; done) | omega | (simp; omega))
        have z2_0 : w.heap.size < w2.heap.size := (by first | (simp; done) | omega | (simp; omega))
        go_wp2_with fail
        refine Calls.mono (held_any _ _ _) ?_
        rintro e w3 ⟨rfl, hb3⟩
        have z3 := Below.size hb3; try simp only [World.size_alloc, World.size_setCell, World.size_drew] at z3
        obtain ⟨c3_0, f3_0⟩ := Below.blk hb3 (b := w.heap.size) (by first | (simp; done) | omega | (simp; omega))
        have z3_0 : w.heap.size < w3.heap.size := (by first | (simp; done) | omega | (simp; omega))
        go_wp2_with fail
        refine Calls.mono (half_any _ (by omega) (by omega) _) ?_
        rintro e w4 ⟨rfl, hb4⟩
        have z4 := Below.size hb4; try simp only [World.size_alloc, World.size_setCell, World.size_drew] at z4
        obtain ⟨c4_0, f4_0⟩ := Below.blk hb4 (b := w.heap.size) (by first | (simp; done) | omega | (simp; omega))
        have z4_0 : w.heap.size < w4.heap.size := (by first | (simp; done) | omega | (simp; omega))
        go_wp2_with fail
        go_ret
        exact Ret.mk rfl (by repeat (first | with_reducible exact Below.refl _ _ | (with_reducible refine Below.al ?_) | (with_reducible refine Below.drew ?_) | (with_reducible refine Below.set ?_ (by first | (simp; done) | omega | (simp; omega))) | (with_reducible refine Below.thru ?_ (by assumption)) | (with_reducible refine Below.chg ?_ (by assumption) (by first | (simp; done) | omega | (simp; omega)))))
      · have hf : forF mode hold own l = 0 := by unfold forF; rw [if_pos (by omega)]
        rw [hf]
        clear hf
        have q0 : (mode == 0) = false := by simpa using e0
        have q1 : (mode == 1) = false := by simpa using e1
        have q2 : (mode == 2) = false := by simpa using e2
        go_enter Try.func48, Try.ntmps48
        go_wp2_with fail
        refine Calls.mono (held_any _ _ _) ?_
        rintro e w1 ⟨rfl, hb1⟩
        have z1 := Below.size hb1; try simp only [World.size_alloc, World.size_setCell, World.size_drew] at z1
        obtain ⟨c1_0, f1_0⟩ := Below.blk hb1 (b := w.heap.size) (by first | (simp; done) | omega | (simp; omega))
        have z1_0 : w.heap.size < w1.heap.size := (by first | (simp; done) | omega | (simp; omega))
        go_wp2_with fail
        go_ret
        exact Ret.mk rfl (by repeat (first | with_reducible exact Below.refl _ _ | (with_reducible refine Below.al ?_) | (with_reducible refine Below.drew ?_) | (with_reducible refine Below.set ?_ (by first | (simp; done) | omega | (simp; omega))) | (with_reducible refine Below.thru ?_ (by assumption)) | (with_reducible refine Below.chg ?_ (by assumption) (by first | (simp; done) | omega | (simp; omega)))))
end Go.Proofs.Ytiaefmmcakagpaa.Hold

/- The walk of the document's For. -/
namespace Go.Proofs.Ytiaefmmcakagpaa.Hold
set_option linter.unusedSimpArgs false
set_option linter.unusedVariables false
open Go Go.RowKit Go.Proofs.Ytiaefmmcakagpaa

theorem rfor_any (mode hold own : Int) (l : List Int) (n : Nat) (hl : l.length = n) (hn : n ≤ maxLen) (a : Option Addr) (cap : Nat) (w : World) (h : Rd w a (i64s l)) :
    Calls Try.prog 105 #[.agg #[.int .i64 mode, .int .i64 hold], .int .i64 own, .slice a n cap] w (Ret w (.int .i64 (forF mode hold own l))) := by
  obtain ⟨c0, c1⟩ := clamp60 hold
  obtain ⟨o0, o1⟩ := clamp_bd own
  obtain ⟨m0, m1⟩ := most_bd l
  obtain ⟨p0, p1⟩ := apart_bd l
  have H := Lib.hid h
  have HL := Lib.hid hl
  clear h hl
  by_cases e0 : mode = 0
  · subst e0
    have hf : forF 0 hold own l = min (clamp hold 60) 60 := by simp [forF, gapF]
    replace hf := Lib.hid hf
    go_enter Try.func105, Try.ntmps105
    go_wp2_with fail
    refine Calls.mono (rheld_any _ _ (by omega) _) ?_
    rintro e w1 ⟨rfl, hb1⟩
    have z1 := Below.size hb1; try simp only [World.size_alloc, World.size_setCell, World.size_drew] at z1
    obtain ⟨c1_0, f1_0⟩ := Below.blk hb1 (b := w.heap.size) (by first | (simp; done) | omega | (simp; omega))
    have z1_0 : w.heap.size < w1.heap.size := (by first | (simp; done) | omega | (simp; omega))
    go_wp2_with fail
    refine Calls.mono (rheld_any _ _ (by omega) _) ?_
    rintro e w9 ⟨rfl, hb9⟩
    have z9 := Below.size hb9; try simp only [World.size_alloc, World.size_setCell, World.size_drew] at z9
    go_wp2_with fail
    go_ret
    exact Ret.mk (congrArg (Value.int .i64) (by rw [hf.out]; unfold clamp at *; omega)) (by repeat (first | with_reducible exact Below.refl _ _ | (with_reducible refine Below.al ?_) | (with_reducible refine Below.drew ?_) | (with_reducible refine Below.set ?_ (by first | (simp; done) | omega | (simp; omega))) | (with_reducible refine Below.thru ?_ (by assumption)) | (with_reducible refine Below.chg ?_ (by assumption) (by first | (simp; done) | omega | (simp; omega)))))
  · by_cases e1 : mode = 1
    · subst e1
      have hf : forF 1 hold own l = min (clamp hold 60 + (apartF l + 1) / 2) 60 := by simp [forF, gapF]
      replace hf := Lib.hid hf
      go_enter Try.func105, Try.ntmps105
      go_wp2_with fail
      refine Calls.mono (rheld_any _ _ (by omega) _) ?_
      rintro e w1 ⟨rfl, hb1⟩
      have z1 := Below.size hb1; try simp only [World.size_alloc, World.size_setCell, World.size_drew] at z1
      obtain ⟨c1_0, f1_0⟩ := Below.blk hb1 (b := w.heap.size) (by first | (simp; done) | omega | (simp; omega))
      have z1_0 : w.heap.size < w1.heap.size := (by first | (simp; done) | omega | (simp; omega))
      have hR : Rd w1 a (i64s l) := H.out.below (by repeat (first | with_reducible exact Below.refl _ _ | (with_reducible refine Below.al ?_) | (with_reducible refine Below.drew ?_) | (with_reducible refine Below.set ?_ (by first | (simp; done) | omega | (simp; omega))) | (with_reducible refine Below.thru ?_ (by assumption)) | (with_reducible refine Below.chg ?_ (by assumption) (by first | (simp; done) | omega | (simp; omega)))))
      replace hR := Lib.hid hR
      go_wp2_with fail
      refine Calls.mono (rapart_any l n HL.out hn a cap _ hR.out) ?_
      rintro e w2 ⟨rfl, hb2⟩
      have z2 := Below.size hb2; try simp only [World.size_alloc, World.size_setCell, World.size_drew] at z2
      obtain ⟨c2_0, f2_0⟩ := Below.blk hb2 (b := w.heap.size) (by first | (simp; done) | omega | (simp; omega))
      have z2_0 : w.heap.size < w2.heap.size := (by first | (simp; done) | omega | (simp; omega))
      go_wp2_with fail
      refine Calls.mono (rheld_any _ _ (by omega) _) ?_
      rintro e w9 ⟨rfl, hb9⟩
      have z9 := Below.size hb9; try simp only [World.size_alloc, World.size_setCell, World.size_drew] at z9
      go_wp2_with fail
      go_ret
      exact Ret.mk (congrArg (Value.int .i64) (by rw [hf.out]; unfold clamp at *; omega)) (by repeat (first | with_reducible exact Below.refl _ _ | (with_reducible refine Below.al ?_) | (with_reducible refine Below.drew ?_) | (with_reducible refine Below.set ?_ (by first | (simp; done) | omega | (simp; omega))) | (with_reducible refine Below.thru ?_ (by assumption)) | (with_reducible refine Below.chg ?_ (by assumption) (by first | (simp; done) | omega | (simp; omega)))))
    · by_cases e2 : mode = 2
      · subst e2
        have hf : forF 2 hold own l = min (clamp hold 60 + (max (mostF l - clamp own 64) 0 + 1) / 2) 60 := by simp [forF, gapF]
        replace hf := Lib.hid hf
        go_enter Try.func105, Try.ntmps105
        go_wp2_with fail
        refine Calls.mono (rheld_any _ _ (by omega) _) ?_
        rintro e w1 ⟨rfl, hb1⟩
        have z1 := Below.size hb1; try simp only [World.size_alloc, World.size_setCell, World.size_drew] at z1
        obtain ⟨c1_0, f1_0⟩ := Below.blk hb1 (b := w.heap.size) (by first | (simp; done) | omega | (simp; omega))
        have z1_0 : w.heap.size < w1.heap.size := (by first | (simp; done) | omega | (simp; omega))
        have hR : Rd w1 a (i64s l) := H.out.below (by repeat (first | with_reducible exact Below.refl _ _ | (with_reducible refine Below.al ?_) | (with_reducible refine Below.drew ?_) | (with_reducible refine Below.set ?_ (by first | (simp; done) | omega | (simp; omega))) | (with_reducible refine Below.thru ?_ (by assumption)) | (with_reducible refine Below.chg ?_ (by assumption) (by first | (simp; done) | omega | (simp; omega)))))
        replace hR := Lib.hid hR
        by_cases hm : clamp own 64 < mostF l
        · have q : decide (clamp own 64 < mostF l) = true := decide_eq_true hm
          go_wp2_with fail
          refine Calls.mono (rmost_any l n HL.out hn a cap _ hR.out) ?_
          rintro e w2 ⟨rfl, hb2⟩
          have z2 := Below.size hb2; try simp only [World.size_alloc, World.size_setCell, World.size_drew] at z2
          obtain ⟨c2_0, f2_0⟩ := Below.blk hb2 (b := w.heap.size) (by first | (simp; done) | omega | (simp; omega))
          have z2_0 : w.heap.size < w2.heap.size := (by first | (simp; done) | omega | (simp; omega))
          go_wp2_with fail
          refine Calls.mono (rheld_any _ _ (by omega) _) ?_
          rintro e w3 ⟨rfl, hb3⟩
          have z3 := Below.size hb3; try simp only [World.size_alloc, World.size_setCell, World.size_drew] at z3
          obtain ⟨c3_0, f3_0⟩ := Below.blk hb3 (b := w.heap.size) (by first | (simp; done) | omega | (simp; omega))
          have z3_0 : w.heap.size < w3.heap.size := (by first | (simp; done) | omega | (simp; omega))
          go_wp2_with fail
          refine Calls.mono (rmost_any l n HL.out hn a cap _ ((hR.out.below hb2).below hb3)) ?_
          rintro e w4 ⟨rfl, hb4⟩
          have z4 := Below.size hb4; try simp only [World.size_alloc, World.size_setCell, World.size_drew] at z4
          obtain ⟨c4_0, f4_0⟩ := Below.blk hb4 (b := w.heap.size) (by first | (simp; done) | omega | (simp; omega))
          have z4_0 : w.heap.size < w4.heap.size := (by first | (simp; done) | omega | (simp; omega))
          go_wp2_with fail
          refine Calls.mono (rheld_any _ _ (by omega) _) ?_
          rintro e w5 ⟨rfl, hb5⟩
          have z5 := Below.size hb5; try simp only [World.size_alloc, World.size_setCell, World.size_drew] at z5
          obtain ⟨c5_0, f5_0⟩ := Below.blk hb5 (b := w.heap.size) (by first | (simp; done) | omega | (simp; omega))
          have z5_0 : w.heap.size < w5.heap.size := (by first | (simp; done) | omega | (simp; omega))
          go_wp2_with fail
          refine Calls.mono (rheld_any _ _ (by omega) _) ?_
          rintro e w9 ⟨rfl, hb9⟩
          have z9 := Below.size hb9; try simp only [World.size_alloc, World.size_setCell, World.size_drew] at z9
          go_wp2_with fail
          go_ret
          exact Ret.mk (congrArg (Value.int .i64) (by rw [hf.out]; unfold clamp at *; omega)) (by repeat (first | with_reducible exact Below.refl _ _ | (with_reducible refine Below.al ?_) | (with_reducible refine Below.drew ?_) | (with_reducible refine Below.set ?_ (by first | (simp; done) | omega | (simp; omega))) | (with_reducible refine Below.thru ?_ (by assumption)) | (with_reducible refine Below.chg ?_ (by assumption) (by first | (simp; done) | omega | (simp; omega)))))
        · have q : decide (clamp own 64 < mostF l) = false := decide_eq_false hm
          go_wp2_with fail
          refine Calls.mono (rmost_any l n HL.out hn a cap _ hR.out) ?_
          rintro e w2 ⟨rfl, hb2⟩
          have z2 := Below.size hb2; try simp only [World.size_alloc, World.size_setCell, World.size_drew] at z2
          obtain ⟨c2_0, f2_0⟩ := Below.blk hb2 (b := w.heap.size) (by first | (simp; done) | omega | (simp; omega))
          have z2_0 : w.heap.size < w2.heap.size := (by first | (simp; done) | omega | (simp; omega))
          go_wp2_with fail
          refine Calls.mono (rheld_any _ _ (by omega) _) ?_
          rintro e w3 ⟨rfl, hb3⟩
          have z3 := Below.size hb3; try simp only [World.size_alloc, World.size_setCell, World.size_drew] at z3
          obtain ⟨c3_0, f3_0⟩ := Below.blk hb3 (b := w.heap.size) (by first | (simp; done) | omega | (simp; omega))
          have z3_0 : w.heap.size < w3.heap.size := (by first | (simp; done) | omega | (simp; omega))
          go_wp2_with fail
          refine Calls.mono (rheld_any _ _ (by omega) _) ?_
          rintro e w9 ⟨rfl, hb9⟩
          have z9 := Below.size hb9; try simp only [World.size_alloc, World.size_setCell, World.size_drew] at z9
          go_wp2_with fail
          go_ret
          exact Ret.mk (congrArg (Value.int .i64) (by rw [hf.out]; unfold clamp at *; omega)) (by repeat (first | with_reducible exact Below.refl _ _ | (with_reducible refine Below.al ?_) | (with_reducible refine Below.drew ?_) | (with_reducible refine Below.set ?_ (by first | (simp; done) | omega | (simp; omega))) | (with_reducible refine Below.thru ?_ (by assumption)) | (with_reducible refine Below.chg ?_ (by assumption) (by first | (simp; done) | omega | (simp; omega)))))
      · have hf : forF mode hold own l = 0 := by unfold forF; rw [if_pos (by omega)]
        rw [hf]
        have q1 : (mode == 1) = false := by simpa using e1
        have q2 : (mode == 2) = false := by simpa using e2
        by_cases hm : mode < 0
        · have q : decide (mode < 0) = true := decide_eq_true hm
          replace hf := Lib.hid hf
          go_enter Try.func105, Try.ntmps105
          go_wp2_with fail
          refine Calls.mono (rheld_any _ _ (by omega) _) ?_
          rintro e w1 ⟨rfl, hb1⟩
          have z1 := Below.size hb1; try simp only [World.size_alloc, World.size_setCell, World.size_drew] at z1
          obtain ⟨c1_0, f1_0⟩ := Below.blk hb1 (b := w.heap.size) (by first | (simp; done) | omega | (simp; omega))
          have z1_0 : w.heap.size < w1.heap.size := (by first | (simp; done) | omega | (simp; omega))
          go_wp2_with fail
          go_ret
          exact Ret.mk rfl (by repeat (first | with_reducible exact Below.refl _ _ | (with_reducible refine Below.al ?_) | (with_reducible refine Below.drew ?_) | (with_reducible refine Below.set ?_ (by first | (simp; done) | omega | (simp; omega))) | (with_reducible refine Below.thru ?_ (by assumption)) | (with_reducible refine Below.chg ?_ (by assumption) (by first | (simp; done) | omega | (simp; omega)))))
        · have q : decide (mode < 0) = false := decide_eq_false hm
          have q' : decide (2 < mode) = true := decide_eq_true (by omega)
          replace hf := Lib.hid hf
          go_enter Try.func105, Try.ntmps105
          go_wp2_with fail
          refine Calls.mono (rheld_any _ _ (by omega) _) ?_
          rintro e w1 ⟨rfl, hb1⟩
          have z1 := Below.size hb1; try simp only [World.size_alloc, World.size_setCell, World.size_drew] at z1
          obtain ⟨c1_0, f1_0⟩ := Below.blk hb1 (b := w.heap.size) (by first | (simp; done) | omega | (simp; omega))
          have z1_0 : w.heap.size < w1.heap.size := (by first | (simp; done) | omega | (simp; omega))
          go_wp2_with fail
          go_ret
          exact Ret.mk rfl (by repeat (first | with_reducible exact Below.refl _ _ | (with_reducible refine Below.al ?_) | (with_reducible refine Below.drew ?_) | (with_reducible refine Below.set ?_ (by first | (simp; done) | omega | (simp; omega))) | (with_reducible refine Below.thru ?_ (by assumption)) | (with_reducible refine Below.chg ?_ (by assumption) (by first | (simp; done) | omega | (simp; omega)))))

end Go.Proofs.Ytiaefmmcakagpaa.Hold

/- The walk of a dock's Spill, at datagrams. -/
namespace Go.Proofs.Ytiaefmmcakagpaa.DockDg
set_option linter.unusedSimpArgs false
set_option linter.unusedVariables false
open Go Go.RowKit Go.Proofs.Ytiaefmmcakagpaa Go.Proofs.Ytiaefmmcakagpaa.DelDg
attribute [local irreducible] Calls

theorem dock_shutN {W w : World} {S : Nat → Prop} {d n : Nat} {most : Int} {l : List El} {v : Value} {r : List Asn} (hn : l.length = n) (h : St W S w (cellA d [v, .int .i64 most] :: rowA 2 v n (encs l) :: r)) : St W S w (dockA d most l :: r) := by
  subst hn
  exact dock_shut h
set_option maxRecDepth 100000 in
set_option maxHeartbeats 1000000 in
theorem spill_room (d : Nat) (most : Int) (l : List El) (x : El) (w : World) (S : Nat → Prop) (h : (dockA d most l).holds w S) (hsm : l.length ≤ 100000) (hlt : (l.length : Int) < most) :
    Calls Try.prog 102 #[.pointer (some ⟨d, 0, none⟩), val x] w (Fin w S (.tuple #[.agg #[.int .i64 0, .string ByteArray.empty], .bool false]) [dockA d most (l ++ [x])]) := by
  obtain ⟨i0, hi, hz, hz1, hz2⟩ := info_parts el_info
  have H0 := ((St.start (Sep.one h)).alloc [.int .i64 x.1, .string x.2] 45)
  have H1 := (H0.alloc [.int .i64 0, .string ⟨#[]⟩] 45).alloc [.int .i64 0, .string ⟨#[]⟩] 45
  simp only [World.size_alloc] at H1
  obtain ⟨v, H2⟩ := dock_parts (H1.front 3 rfl)
  obtain ⟨a, cap, rfl, hn, hl, R⟩ := (H2.row 1 rfl).rd (by omega)
  obtain ⟨SX, hSX⟩ := H1.held 3 rfl
  have P1 := full_any d most l _ SX hSX
  obtain ⟨z, c, f⟩ := H2.box 0 rfl
  have q0 : (most == 0) = false := by simp; omega
  have q0' : decide (most = 0) = false := decide_eq_false (by omega)
  have q : decide (most ≤ (l.length : Int)) = false := decide_eq_false (by omega)
  have n1 := H2.ne_cells 0 2 rfl rfl (by decide)
  have n2 := H2.ne_cells 0 3 rfl rfl (by decide)
  have n3 := H2.ne_cells 0 4 rfl rfl (by decide)
  have n4 : ¬ w.heap.size = d := fun e => n3 e.symm
  have n5 : ¬ w.heap.size + 1 = d := fun e => n2 e.symm
  have n6 : ¬ w.heap.size + 1 + 1 = d := fun e => n1 e.symm
  rw [q] at P1
  clear h R hl H0 H1 hSX
  unfold val
  replace H2 := Lib.hid H2; replace P1 := Lib.hid P1
  go_enter Try.func102, Try.ntmps102
  go_wp2_with fail
  refine Calls.mono P1.out ?_
  rintro e w1 ⟨rfl, hb1⟩
  have H3 : St w S w1 [cellA d [.slice a l.length cap, .int .i64 most], rowA 2 (.slice a l.length cap) l.length (encs l), cellA (w.heap.size + 1 + 1) [.int .i64 0, .string ⟨#[]⟩], cellA (w.heap.size + 1) [.int .i64 0, .string ⟨#[]⟩], cellA w.heap.size [.int .i64 x.1, .string x.2]] := H2.out.thru hb1
  clear P1 H2 c f z
  obtain ⟨z, c, f⟩ := H3.box 0 rfl
  obtain ⟨z2, c2, f2⟩ := H3.box 4 rfl
  obtain ⟨z3, c3, f3⟩ := H3.box 3 rfl
  obtain ⟨z4, c4, f4⟩ := H3.box 2 rfl
  replace H3 := Lib.hid H3
  go_wp2_with fail
  go_region_law (go_loud (refine step_appS rfl _ _ _ rfl 45 i0 _ 2 24 Try.underlying48 hi hz hz1 hz2 rfl (by omega) 1 (.slice a l.length cap) l.length (encs l) rfl (show St w S _ [cellA d [.slice a l.length cap, .int .i64 most], rowA 2 (.slice a l.length cap) l.length (encs l), cellA (w.heap.size + 1 + 1) [.int .i64 0, .string ⟨#[]⟩], cellA (w.heap.size + 1) [.int .i64 0, .string ⟨#[]⟩], cellA w.heap.size [.int .i64 x.1, .string x.2]] from by repeat (first | exact H3.out | refine St.drew ?_ | refine St.skip ?_ _)) rfl _ _ [.int .i64 x.1, .string x.2] rfl rfl (by intro j u hu; simpa using hu) (by simp [Value.oneCell']) (by omega) (by omega) ?_ (by omega); intro v5 w5 H5 hv5; obtain ⟨g5, o5, c5, hv5⟩ := hv5; rw [hv5] at H5 ⊢; obtain ⟨z5, k5, f5⟩ := H5.box 1 rfl; obtain ⟨z6, k6, f6⟩ := H5.box 2 rfl; obtain ⟨z7, k7, f7⟩ := H5.box 3 rfl; replace H5 := Lib.hid H5))
  all_goals
    go_wp2_with fail
    refine bodyPost_ret (v := .tuple #[.agg #[.int .i64 0, .string ByteArray.empty], .bool false]) (by simp [results, Try.results102, go_sem, k7, z7, n2, n5]; try rfl) rfl ?_
    have H6 := H5.out.set 1 rfl 0 (.slice (some ⟨g5, o5, none⟩) (l.length + 1) c5) (by simp)
    have H7 := ((((H6.front 3 rfl).set 0 rfl 0 (.int .i64 0) (by simp))).set 0 rfl 1 (.string ⟨#[]⟩) (by simp))
    have H8 := H7.arrN [1, 2, 0] rfl
    rw [show encs l ++ [Value.int .i64 x.1, .string x.2] = encs (l ++ [x]) from encs_app l x] at H8
    exact ⟨rfl, (dock_shutN (by simp) H8).drops 1⟩
set_option maxRecDepth 100000 in
set_option maxHeartbeats 1000000 in
theorem spill_full (d : Nat) (most : Int) (y : El) (l : List El) (x : El) (w : World) (S : Nat → Prop) (h : (dockA d most (y :: l)).holds w S) (hsm : l.length ≤ 100000) (hlt : ¬ ((y :: l).length : Int) < most) (h0 : most ≠ 0) :
    Calls Try.prog 102 #[.pointer (some ⟨d, 0, none⟩), val x] w (Fin w S (.tuple #[val y, .bool true]) [dockA d most (l ++ [x])]) := by
  obtain ⟨i0, hi, hz, hz1, hz2⟩ := info_parts el_info
  have H0 := ((St.start (Sep.one h)).alloc [.int .i64 x.1, .string x.2] 45)
  have H1 := (H0.alloc [.int .i64 0, .string ⟨#[]⟩] 45).alloc [.int .i64 0, .string ⟨#[]⟩] 45
  simp only [World.size_alloc] at H1
  obtain ⟨v, H2⟩ := dock_parts (H1.front 3 rfl)
  obtain ⟨SX, hSX⟩ := H1.held 3 rfl
  have P1 := full_any d most (y :: l) _ SX hSX
  obtain ⟨z, c, f⟩ := H2.box 0 rfl
  have q0 : (most == 0) = false := by simpa using h0
  have q0' : decide (most = 0) = false := decide_eq_false h0
  have q : decide (most ≤ ((y :: l).length : Int)) = true := decide_eq_true (by omega)
  have n1 := H2.ne_cells 0 2 rfl rfl (by decide)
  have n2 := H2.ne_cells 0 3 rfl rfl (by decide)
  have n3 := H2.ne_cells 0 4 rfl rfl (by decide)
  have n4 : ¬ w.heap.size = d := fun e => n3 e.symm
  have n5 : ¬ w.heap.size + 1 = d := fun e => n2 e.symm
  have n6 : ¬ w.heap.size + 1 + 1 = d := fun e => n1 e.symm
  rw [q] at P1
  obtain ⟨y1, y2⟩ := y
  clear h H0 hSX H2 q hlt h0
  unfold val
  replace H1 := Lib.hid H1; replace P1 := Lib.hid P1
  go_enter Try.func102, Try.ntmps102
  go_wp2_with fail
  refine Calls.mono P1.out ?_
  rintro e w1 ⟨rfl, hb1⟩
  have P2 := Calls.st_at 3 (H1.out.thru hb1) rfl fun S h => pull_cons d most (y1, y2) l _ S h
  clear P1 H1 c f z
  replace P2 := Lib.hid P2
  go_wp2_with fail
  refine Calls.mono P2.out ?_
  rintro e w2 ⟨rfl, H2⟩
  clear P2
  obtain ⟨v2, H3⟩ := dock_parts H2
  obtain ⟨a, cap, rfl, hn, hl, R⟩ := (H3.row 1 rfl).rd (by omega)
  obtain ⟨z, c, f⟩ := H3.box 0 rfl
  obtain ⟨z3, c3, f3⟩ := H3.box 2 rfl
  obtain ⟨z4, c4, f4⟩ := H3.box 3 rfl
  obtain ⟨z5, c5, f5⟩ := H3.box 4 rfl
  have H5 : St w S _ [cellA d [.slice a l.length cap, .int .i64 most], rowA 2 (.slice a l.length cap) l.length (encs l), cellA w2.heap.size [.int .i64 y1, .string y2], cellA (w.heap.size + 1 + 1) [.int .i64 0, .string ⟨#[]⟩], cellA (w.heap.size + 1) [.int .i64 0, .string ⟨#[]⟩], cellA w.heap.size [.int .i64 x.1, .string x.2]] := (H3.alloc [.int .i64 y1, .string y2] 45).arrN [1, 2, 0] rfl
  have m1 := H5.ne_cells 0 2 rfl rfl (by decide)
  have m2 := H5.ne_cells 2 4 rfl rfl (by decide)
  have m3 : ¬ w2.heap.size = d := fun e => m1 e.symm
  have m4 : ¬ w.heap.size + 1 = w2.heap.size := fun e => m2 e.symm
  have m5 := H5.ne_cells 2 5 rfl rfl (by decide)
  have m6 : ¬ w.heap.size = w2.heap.size := fun e => m5 e.symm
  clear H2 H3 R hl
  replace H5 := Lib.hid H5
  go_wp2_with fail
  go_region_law (refine step_appS rfl _ _ _ rfl 45 i0 _ 2 24 Try.underlying48 hi hz hz1 hz2 rfl (by omega) 1 (.slice a l.length cap) l.length (encs l) rfl (show St w S _ [cellA d [.slice a l.length cap, .int .i64 most], rowA 2 (.slice a l.length cap) l.length (encs l), cellA w2.heap.size [.int .i64 y1, .string y2], cellA (w.heap.size + 1 + 1) [.int .i64 0, .string ⟨#[]⟩], cellA (w.heap.size + 1) [.int .i64 0, .string ⟨#[]⟩], cellA w.heap.size [.int .i64 x.1, .string x.2]] from by repeat (first | exact H5.out | refine St.drew ?_ | refine St.skip ?_ _)) rfl _ _ [.int .i64 x.1, .string x.2] rfl rfl (by intro j u hu; simpa using hu) (by simp [Value.oneCell']) (by omega) (by omega) ?_ (by omega); intro v5 w5 H6 hv5; obtain ⟨g5, o5, c5, hv5⟩ := hv5; rw [hv5] at H6 ⊢; obtain ⟨z6, k6, f6⟩ := H6.box 1 rfl; obtain ⟨z7, k7, f7⟩ := H6.box 2 rfl; obtain ⟨z8, k8, f8⟩ := H6.box 4 rfl; replace H6 := Lib.hid H6)
  all_goals
    go_wp2_with fail
    refine bodyPost_ret (v := .tuple #[.agg #[.int .i64 y1, .string y2], .bool true]) (by simp [results, Try.results102, go_sem, k8, z8, n2, n5]; try rfl) rfl ?_
    have H7 := H6.out.set 1 rfl 0 (.slice (some ⟨g5, o5, none⟩) (l.length + 1) c5) (by simp)
    have H8 := ((((H7.front 4 rfl).set 0 rfl 0 (.int .i64 y1) (by simp))).set 0 rfl 1 (.string y2) (by simp))
    have H9 := H8.arrN [1, 2, 0] rfl
    rw [show encs l ++ [Value.int .i64 x.1, .string x.2] = encs (l ++ [x]) from encs_app l x] at H9
    exact ⟨rfl, (dock_shutN (by simp) H9).drops 1⟩
end Go.Proofs.Ytiaefmmcakagpaa.DockDg

/- What an order comes to, in plain words. -/
namespace Go.Proofs.Ytiaefmmcakagpaa.Ord
set_option linter.unusedSimpArgs false
set_option linter.unusedVariables false
open Go.Proofs.Ytiaefmmcakagpaa.Sift Go.Proofs.Ytiaefmmcakagpaa.Hold
open Go.Proofs.Ytiaefmmcakagpaa.DockWait (El placed headV)

/-- An order: its timing, its time, how many were released, counts, the cursor, what waits, what can be received. -/
structure Or where
  mode : Int
  hold : Int
  now : Int
  rel : Int
  came : Int
  ref : Int
  spl : Int
  giv : Int
  c : Int
  l : List El
  rdy : List Dg
def stepR (p : List Dg × Int) (d : Dg) : List Dg × Int := if p.1.length < 32 then (p.1 ++ [d], p.2) else (p.1.drop 1 ++ [d], p.2 + 1)
def relR (p : List Dg × Int) (ds : List Dg) : List Dg × Int := ds.foldl stepR p
def relM (x : Or) (ds : List Dg) : Or := { x with rdy := (relR (x.rdy, x.spl) ds).1, spl := (relR (x.rdy, x.spl) ds).2, rel := x.rel + ds.length }
def addS (x : Or) (r : List Dg × Int × List El) : Or := relM { x with c := r.2.1, l := r.2.2 } r.1
def dueS (x : Or) (now : Int) : Or := addS x (dueM x.c x.l now)
def putP (x : Or) (d : Dg) (f : Int) : (Int × List Dg) × Int × List El := putM x.c x.l d (x.now + f)
def takeA (x : Or) (d : Dg) (f : Int) : Or := addS { x with came := x.came + 1, ref := if 2 ≤ (putP x d f).1.1 then x.ref + 1 else x.ref } ((putP x d f).1.2, (putP x d f).2)
def takeS (x : Or) (d : Dg) (f : Int) : Or := dueS (takeA x d f) x.now
def tickA (x : Or) : Or := { x with now := min (x.now + 1) 1099511627776 }
def tickS (x : Or) : Or := dueS (tickA x) (tickA x).now
def flushS (x : Or) : Or := dueS x (lateM x.l).1
def recvS (x : Or) : Or := match x.rdy with | [] => x | _ :: t => { x with rdy := t, giv := x.giv + 1 }
def recvD (x : Or) : Dg := match x.rdy with | [] => (0, ⟨#[]⟩) | d :: _ => d
def new0 (mode hold : Int) : Or := ⟨mode, hold, 0, 0, 0, 0, 0, 0, 0, [], []⟩

theorem relR_snoc (p : List Dg × Int) (ds : List Dg) (d : Dg) : relR p (ds ++ [d]) = stepR (relR p ds) d := by simp [relR]
theorem relR_facts : ∀ (ds : List Dg) (p : List Dg × Int), p.1.length ≤ 32 → (relR p ds).1.length ≤ 32 ∧ (relR p ds).2 + (relR p ds).1.length = p.2 + p.1.length + ds.length ∧ p.2 ≤ (relR p ds).2 ∧ (relR p ds).1.Sublist (p.1 ++ ds)
  | [], p, h => ⟨h, by simp [relR], Int.le_refl _, by simp [relR]⟩
  | d :: ds, p, h => by
    have e : relR p (d :: ds) = relR (stepR p d) ds := rfl
    rw [e]
    by_cases hl : p.1.length < 32
    · have hs : stepR p d = (p.1 ++ [d], p.2) := by unfold stepR; rw [if_pos hl]
      rw [hs]
      obtain ⟨h1, h2, h3, h4⟩ := relR_facts ds (p.1 ++ [d], p.2) (by simp; omega)
      refine ⟨h1, ?_, h3, by simpa using h4⟩
      rw [h2]; simp; omega
    · have hs : stepR p d = (p.1.drop 1 ++ [d], p.2 + 1) := by unfold stepR; rw [if_neg hl]
      rw [hs]
      obtain ⟨h1, h2, h3, h4⟩ := relR_facts ds (p.1.drop 1 ++ [d], p.2 + 1) (by simp; omega)
      refine ⟨h1, ?_, by simp only at h3; omega, ?_⟩
      · rw [h2]; simp; omega
      · refine h4.trans ?_
        simp only [List.append_assoc, List.cons_append, List.nil_append]
        exact (List.drop_sublist 1 p.1).append (List.Sublist.refl _)
theorem lastN_up : ∀ (l : List El) (c : Int), (∀ x ∈ l, c < x.1) → Up l → c + l.length ≤ lastN c l ∧ ∀ x ∈ l, x.1 ≤ lastN c l
  | [], c, _, _ => ⟨by simp [lastN], by simp⟩
  | x :: l, c, h, hu => by
    have h' := List.pairwise_cons.1 hu
    obtain ⟨h1, h2⟩ := lastN_up l x.1 h'.1 h'.2
    have hx := h x (by simp)
    have e : lastN c (x :: l) = lastN x.1 l := rfl
    rw [e]
    refine ⟨by simp only [List.length_cons]; omega, fun y hy => ?_⟩
    rcases List.mem_cons.1 hy with rfl | hy
    · omega
    · exact h2 y hy

/-- What holds of an order behind k steps, of which those that were received had numbers up to 'last'. -/
structure Good (x : Or) (k : Nat) (last : Int) : Prop where
  ok : Ok x.c x.l
  len : x.l.length ≤ 32
  rlen : x.rdy.length ≤ 32
  n0 : 0 ≤ x.now
  n1 : x.now ≤ 1099511627776
  cm : x.came ≤ k
  r0 : 0 ≤ x.ref
  s0 : 0 ≤ x.spl
  g0 : 0 ≤ x.giv
  sum : x.came = x.ref + x.giv + x.spl + x.rdy.length + x.l.length
  rels : x.rel = x.giv + x.spl + x.rdy.length
  cur : x.rel ≤ x.c
  up : x.rdy.Pairwise fun a b => a.1 < b.1
  rc : ∀ d ∈ x.rdy, last < d.1 ∧ d.1 ≤ x.c
  lc : last ≤ x.c
theorem good_new (mode hold : Int) : Good (new0 mode hold) 0 0 :=
  ⟨⟨by show (0 : Int) ≤ 0; omega, by show (0 : Int) ≤ top; unfold top; omega, (by intro x hx; cases hx), List.Pairwise.nil⟩, by simp [new0], by simp [new0], Int.le_refl _, by simp [new0], by simp [new0], Int.le_refl _, Int.le_refl _, Int.le_refl _, by simp [new0], by simp [new0], by simp [new0], List.Pairwise.nil, (by intro d hd; cases hd), Int.le_refl _⟩
/-- Of L, that waits behind the cursor, the first k are released. -/
theorem Good.add {x : Or} {k : Nat} {last : Int} {L : List El} {r : List Dg × Int × List El} {m : Nat} (h : Good { x with l := L } k last ∨ (Ok x.c L ∧ x.rdy.length ≤ 32 ∧ 0 ≤ x.now ∧ x.now ≤ 1099511627776 ∧ x.came ≤ k ∧ 0 ≤ x.ref ∧ 0 ≤ x.spl ∧ 0 ≤ x.giv ∧ x.came = x.ref + x.giv + x.spl + x.rdy.length + L.length ∧ x.rel = x.giv + x.spl + x.rdy.length ∧ x.rel ≤ x.c ∧ (x.rdy.Pairwise fun a b => a.1 < b.1) ∧ (∀ d ∈ x.rdy, last < d.1 ∧ d.1 ≤ x.c) ∧ last ≤ x.c))
    (hr : Rel x.c L r m) (hl : r.2.2.length ≤ 32) : Good (addS x r) k last := by
  have h' : Ok x.c L ∧ x.rdy.length ≤ 32 ∧ 0 ≤ x.now ∧ x.now ≤ 1099511627776 ∧ x.came ≤ k ∧ 0 ≤ x.ref ∧ 0 ≤ x.spl ∧ 0 ≤ x.giv ∧ x.came = x.ref + x.giv + x.spl + x.rdy.length + L.length ∧ x.rel = x.giv + x.spl + x.rdy.length ∧ x.rel ≤ x.c ∧ (x.rdy.Pairwise fun a b => a.1 < b.1) ∧ (∀ d ∈ x.rdy, last < d.1 ∧ d.1 ≤ x.c) ∧ last ≤ x.c := by
    rcases h with h | h
    · exact ⟨h.ok, h.rlen, h.n0, h.n1, h.cm, h.r0, h.s0, h.g0, h.sum, h.rels, h.cur, h.up, h.rc, h.lc⟩
    · exact h
  obtain ⟨a1, a2, a3, a4, a5, a6, a7, a8, a9, a10, a11, a12, a13, a14⟩ := h'
  obtain ⟨b1, b2, b3, b4⟩ := relR_facts r.1 (x.rdy, x.spl) a2
  have hle := hr.le
  have hlen : r.1.length = m := by rw [hr.out, List.length_map, List.length_take]; omega
  have hrest : r.2.2.length = L.length - m := by rw [hr.rest, List.length_drop]
  have hup : Up (L.take m) := a1.up.sublist (List.take_sublist _ _)
  have hgt : ∀ y ∈ L.take m, x.c < y.1 := fun y hy => (a1.mem y (List.mem_of_mem_take hy)).1
  obtain ⟨c1, c2⟩ := lastN_up (L.take m) x.c hgt hup
  have hc : r.2.1 = lastN x.c (L.take m) := hr.cur
  rw [List.length_take, show min m L.length = m by omega, ← hc] at c1
  have hmem : ∀ d ∈ r.1, x.c < d.1 ∧ d.1 ≤ r.2.1 := fun d hd => by
    rw [hr.out] at hd
    obtain ⟨y, hy, rfl⟩ := List.mem_map.1 hd
    exact ⟨hgt y hy, by rw [hc]; exact c2 y hy⟩
  have hsub : ∀ d ∈ (relR (x.rdy, x.spl) r.1).1, last < d.1 ∧ d.1 ≤ r.2.1 := fun d hd => by
    rcases List.mem_append.1 (b4.subset hd) with hd | hd
    · have := a13 d hd
      exact ⟨this.1, by omega⟩
    · have := hmem d hd
      exact ⟨by omega, this.2⟩
  simp only at b2 b3 b4
  have hs : (r.1).Pairwise fun a b => a.1 < b.1 := by
    rw [hr.out, List.pairwise_map]
    exact hup
  refine ⟨a1.rel hr, hl, b1, a3, a4, a5, a6, ?_, a8, ?_, ?_, ?_, ?_, hsub, ?_⟩
  · show 0 ≤ (relR (x.rdy, x.spl) r.1).2
    omega
  · show x.came = x.ref + x.giv + (relR (x.rdy, x.spl) r.1).2 + (relR (x.rdy, x.spl) r.1).1.length + r.2.2.length
    omega
  · show x.rel + r.1.length = x.giv + (relR (x.rdy, x.spl) r.1).2 + (relR (x.rdy, x.spl) r.1).1.length
    omega
  · show x.rel + r.1.length ≤ r.2.1
    omega
  · refine List.Pairwise.sublist b4 (List.pairwise_append.2 ⟨a12, hs, fun a ha b hb => ?_⟩)
    have := (a13 a ha).2
    have := (hmem b hb).1
    omega
  · show last ≤ r.2.1
    omega
theorem Good.due {x : Or} {k : Nat} {last : Int} (h : Good x k last) (now : Int) : Good (dueS x now) k last := by
  obtain ⟨m, hr⟩ := due_rel x.c x.l now h.ok.up
  exact Good.add (L := x.l) (.inl h) hr (by rw [hr.rest, List.length_drop]; have := h.len; omega)
theorem Good.more {x : Or} {k k' : Nat} {last : Int} (h : Good x k last) (hk : k ≤ k') : Good x k' last := { h with cm := by have := h.cm; omega }
theorem Good.takeA {x : Or} {k : Nat} {last : Int} (h : Good x k last) (d : Dg) (f : Int) : Good (takeA x d f) (k + 1) last := by
  have hc := put_case d (x.now + f) h.ok h.len
  have e : putM x.c x.l d (x.now + f) = putP x d f := rfl
  rw [e] at hc
  unfold Ord.takeA
  generalize putP x d f = R at *
  cases hc with
  | no hf hw he =>
    rw [he]
    refine Good.add (L := x.l) (m := 0) (.inr ⟨h.ok, h.rlen, h.n0, h.n1, ?_, ?_, h.s0, h.g0, ?_, h.rels, h.cur, h.up, h.rc, h.lc⟩) (Rel.zero x.c x.l) h.len
    · have := h.cm; show x.came + 1 ≤ ((k + 1 : Nat) : Int); omega
    · have := h.r0; simp only [if_pos hw.1]; omega
    · have := h.sum; simp only [if_pos hw.1]; omega
  | yes m hf hw hr hn hs =>
    have hlt : ¬ 2 ≤ R.1.1 := by rw [hw]; split <;> omega
    refine Good.add (L := lay d (x.now + f) x.l) (m := m) (.inr ⟨lay_ok d _ h.ok hf, h.rlen, h.n0, h.n1, ?_, ?_, h.s0, h.g0, ?_, h.rels, h.cur, h.up, h.rc, h.lc⟩) hr hs
    · have := h.cm; show x.came + 1 ≤ ((k + 1 : Nat) : Int); omega
    · simp only [if_neg hlt]; exact h.r0
    · have := h.sum
      have := lay_len d (x.now + f) x.l
      simp only [if_neg hlt]
      omega
theorem Good.take {x : Or} {k : Nat} {last : Int} (h : Good x k last) (d : Dg) (f : Int) : Good (takeS x d f) (k + 1) last := (h.takeA d f).due _
theorem Good.tickA {x : Or} {k : Nat} {last : Int} (h : Good x k last) : Good (tickA x) k last := { h with n0 := by show 0 ≤ min (x.now + 1) 1099511627776; have := h.n0; omega, n1 := by show min (x.now + 1) 1099511627776 ≤ 1099511627776; omega }
theorem Good.tick {x : Or} {k : Nat} {last : Int} (h : Good x k last) : Good (tickS x) k last := h.tickA.due _
theorem Good.flush {x : Or} {k : Nat} {last : Int} (h : Good x k last) : Good (flushS x) k last := h.due _
theorem Good.recv {x : Or} {k : Nat} {last : Int} (h : Good x k last) : Good (recvS x) k last := by
  obtain ⟨mode, hold, now, rel, came, ref, spl, giv, c, l, rdy⟩ := x
  cases rdy with
  | nil => exact h
  | cons d t =>
    have h' := List.pairwise_cons.1 h.up
    refine ⟨h.ok, h.len, ?_, h.n0, h.n1, h.cm, h.r0, h.s0, ?_, ?_, ?_, h.cur, h'.2, fun y hy => h.rc y (List.mem_cons_of_mem _ hy), h.lc⟩
    · have := h.rlen; simp only [List.length_cons] at this; show t.length ≤ 32; omega
    · have := h.g0; show 0 ≤ giv + 1; simp only at this; omega
    · have := h.sum; simp only [List.length_cons] at this; show came = ref + (giv + 1) + spl + t.length + l.length; omega
    · have := h.rels; simp only [List.length_cons] at this; show rel = (giv + 1) + spl + t.length; omega
/-- Behind what was received the last number is that one's. -/
theorem Good.recv_last {x : Or} {k : Nat} {last : Int} {d : Dg} {t : List Dg} (h : Good x k last) (hd : x.rdy = d :: t) : Good (recvS x) k d.1 := by
  have h1 := h.recv
  have h2 := h.up
  have h3 := h.rc d (by rw [hd]; simp)
  rw [hd] at h2
  have h' := List.pairwise_cons.1 h2
  have e : recvS x = { x with rdy := t, giv := x.giv + 1 } := by unfold recvS; rw [hd]
  rw [e] at h1 ⊢
  exact { h1 with rc := fun y hy => ⟨h'.1 y hy, (h1.rc y hy).2⟩, lc := h3.2 }
theorem Good.set {x : Or} {k : Nat} {last : Int} (h : Good x k last) (mode hold : Int) : Good { x with mode := mode, hold := hold } k last := { h with }
theorem Good.bds {x : Or} {k : Nat} {last : Int} (h : Good x k last) : 0 ≤ x.rel ∧ x.rel ≤ k ∧ 0 ≤ x.came ∧ x.came ≤ k ∧ x.ref ≤ k ∧ x.spl ≤ k ∧ x.giv ≤ k := by
  obtain ⟨_, _, _, _, _, h1, h2, h3, h4, h5, h6, _, _, _, _⟩ := h
  omega
end Go.Proofs.Ytiaefmmcakagpaa.Ord

/- The walks of the package order: what it is made of, New, Set, Waits, Ready, Now, Counts. -/
namespace Go.Proofs.Ytiaefmmcakagpaa.Ord
set_option linter.unusedSimpArgs false
set_option linter.unusedVariables false
open Go Go.RowKit Go.Shelf Go.Proofs.Ytiaefmmcakagpaa Go.Proofs.Ytiaefmmcakagpaa.Sift Go.Proofs.Ytiaefmmcakagpaa.Hold
open Go.Proofs.Ytiaefmmcakagpaa.DockWait (El enc val encs placed headV)
attribute [local irreducible] Calls

def ordC (s k : Nat) (x : Or) : List Value := [.pointer (some ⟨s, 0, none⟩), .pointer (some ⟨k, 0, none⟩), .int .i64 x.mode, .int .i64 x.hold, .int .i64 x.now, .int .i64 x.rel, .int .i64 x.came, .int .i64 x.ref, .int .i64 x.spl, .int .i64 x.giv, .int .i64 0]
def orderA (o : Nat) (x : Or) : Asn := exA fun (p : Nat × Nat) => sepA [cellA o (ordC p.1 p.2 x), siftA p.1 x.c x.l, DockDg.dockA p.2 32 x.rdy]
theorem order_parts {W w : World} {S : Nat → Prop} {o : Nat} {x : Or} {r : List Asn} (h : St W S w (orderA o x :: r)) : ∃ s k, St W S w (cellA o (ordC s k x) :: siftA s x.c x.l :: DockDg.dockA k 32 x.rdy :: r) := by
  obtain ⟨⟨s, k⟩, h1⟩ := St.unex 0 h rfl
  exact ⟨s, k, St.unsep 0 h1 rfl⟩
theorem order_shut {W w : World} {S : Nat → Prop} {o s k : Nat} {x : Or} {r : List Asn} (h : St W S w (cellA o (ordC s k x) :: siftA s x.c x.l :: DockDg.dockA k 32 x.rdy :: r)) : St W S w (orderA o x :: r) :=
  St.ex (fun (p : Nat × Nat) => sepA [cellA o (ordC p.1 p.2 x), siftA p.1 x.c x.l, DockDg.dockA p.2 32 x.rdy]) (s, k) (St.join [_, _, _] r h)

/-- The same, where its parts are known. -/
def orderP (o s k : Nat) (x : Or) : Asn := sepA [cellA o (ordC s k x), siftA s x.c x.l, DockDg.dockA k 32 x.rdy]
theorem orderP_open {W w : World} {S : Nat → Prop} {o s k : Nat} {x : Or} {r : List Asn} (h : St W S w (orderP o s k x :: r)) : St W S w (cellA o (ordC s k x) :: siftA s x.c x.l :: DockDg.dockA k 32 x.rdy :: r) := St.unsep 0 h rfl
theorem orderP_shut {W w : World} {S : Nat → Prop} {o s k : Nat} {x : Or} {r : List Asn} (h : St W S w (cellA o (ordC s k x) :: siftA s x.c x.l :: DockDg.dockA k 32 x.rdy :: r)) : St W S w (orderP o s k x :: r) := St.join [_, _, _] r h
theorem orderP_order {W w : World} {S : Nat → Prop} {o s k : Nat} {x : Or} {r : List Asn} (h : St W S w (orderP o s k x :: r)) : St W S w (orderA o x :: r) := order_shut (orderP_open h)
theorem order_P {W w : World} {S : Nat → Prop} {o : Nat} {x : Or} {r : List Asn} (h : St W S w (orderA o x :: r)) : ∃ s k, St W S w (orderP o s k x :: r) := by
  obtain ⟨s, k, h1⟩ := order_parts h
  exact ⟨s, k, orderP_shut h1⟩
/-- What stays of its own cells, while things are released. -/
def ordE (o s k : Nat) (mode hold now : Int) : Asn := exA fun (p : Int × Int × Int × Int × Int) => cellA o [.pointer (some ⟨s, 0, none⟩), .pointer (some ⟨k, 0, none⟩), .int .i64 mode, .int .i64 hold, .int .i64 now, .int .i64 p.1, .int .i64 p.2.1, .int .i64 p.2.2.1, .int .i64 p.2.2.2.1, .int .i64 p.2.2.2.2, .int .i64 0]
theorem ordE_of {W w : World} {S : Nat → Prop} {o s k : Nat} {x : Or} {r : List Asn} (h : St W S w (cellA o (ordC s k x) :: r)) : St W S w (ordE o s k x.mode x.hold x.now :: r) :=
  St.ex (fun (p : Int × Int × Int × Int × Int) => cellA o [.pointer (some ⟨s, 0, none⟩), .pointer (some ⟨k, 0, none⟩), .int .i64 x.mode, .int .i64 x.hold, .int .i64 x.now, .int .i64 p.1, .int .i64 p.2.1, .int .i64 p.2.2.1, .int .i64 p.2.2.2.1, .int .i64 p.2.2.2.2, .int .i64 0]) (x.rel, x.came, x.ref, x.spl, x.giv) h
theorem ordE_cell {W w : World} {S : Nat → Prop} {o s k : Nat} {mode hold now : Int} {r : List Asn} (h : St W S w (ordE o s k mode hold now :: r)) :
    w.cell? ⟨o, 0, none⟩ = some (.pointer (some ⟨s, 0, none⟩)) ∧ w.cell? ⟨o, 2, none⟩ = some (.int .i64 mode) ∧ w.cell? ⟨o, 3, none⟩ = some (.int .i64 hold) ∧ w.cell? ⟨o, 4, none⟩ = some (.int .i64 now) := by
  obtain ⟨p, h1⟩ := St.unex 0 h rfl
  have c := (h1.box 0 rfl).cells
  exact ⟨c 0, c 2, c 3, c 4⟩

set_option maxRecDepth 100000 in
theorem new_bad (mode hold : Int) (h : checkF mode hold ≠ 0) (w : World) : Calls Try.prog 32 #[.agg #[.int .i64 mode, .int .i64 hold]] w (Ret w (.tuple #[.pointer none, .int .i64 (checkF mode hold)])) := by
  have P := fun w => check_any mode hold w
  generalize checkF mode hold = e at *
  have q : (e != 0) = true := by simpa using h
  have q' : decide (e = 0) = false := decide_eq_false h
  clear h
  replace P := Lib.hid P
  go_enter Try.func32, Try.ntmps32
  go_wp2_with fail
  refine Calls.mono (P.out _) ?_
  rintro e w1 ⟨rfl, hb1⟩
  have z1 := Below.size hb1; try simp only [World.size_alloc, World.size_setCell, World.size_drew] at z1
  go_wp2_with fail
  go_ret2
  exact Ret.mk rfl (by repeat (first | with_reducible exact Below.refl _ _ | (with_reducible refine Below.al ?_) | (with_reducible refine Below.drew ?_) | (with_reducible refine Below.set ?_ (by first | (simp; done) | omega | (simp; omega))) | (with_reducible refine Below.thru ?_ (by assumption)) | (with_reducible refine Below.chg ?_ (by assumption) (by first | (simp; done) | omega | (simp; omega)))))
set_option maxRecDepth 100000 in
set_option maxHeartbeats 1000000 in
theorem new_ok (mode hold : Int) (h : checkF mode hold = 0) (w : World) : Calls Try.prog 32 #[.agg #[.int .i64 mode, .int .i64 hold]] w (fun e w' => ∃ o, e = .returned (.tuple #[.pointer (some ⟨o, 0, none⟩), .int .i64 0]) ∧ St w none0 w' [orderA o (new0 mode hold)]) := by
  have P := fun w => check_any mode hold w
  rw [h] at P
  have H0 := (St.zero w).alloc [.int .i64 mode, .int .i64 hold] 62
  have P2 := fun w => DockDg.new_any 32 w
  rw [show min (max (32 : Int) 0) 1000 = 32 by decide] at P2
  clear h
  replace P := Lib.hid P; replace P2 := Lib.hid P2; replace H0 := Lib.hid H0
  go_enter Try.func32, Try.ntmps32
  go_wp2_with fail
  refine Calls.mono (P.out _) ?_
  rintro e w1 ⟨rfl, hb1⟩
  have z1 := Below.size hb1; try simp only [World.size_alloc, World.size_setCell, World.size_drew] at z1
  have HC := H0.out.thru hb1
  have hcl : ∀ (s : Cls w none0 [cellA w.heap.size [.int .i64 mode, .int .i64 hold]]) (o : Nat), s.it.cell? ⟨w.heap.size, o, none⟩ = [Value.int .i64 mode, .int .i64 hold][o]? := fun s => (s.st.box 0 rfl).cells
  clear P H0
  replace HC := Lib.hid HC
  go_wp2_with fail
  haveI := St.ne HC.out
  refine wp_region_madeC HC.out [2] [false, false, true, false, false, false, false] 6 #[false, false, true, false, false, false, false] (by kernel_rfl) rfl (by kernel_rfl) (by kernel_rfl) rfl (by kernel_rfl) (by kernel_rfl) (by intro c a a' w e h; obtain ⟨t, d⟩ := a; obtain ⟨t', d'⟩ := a'; obtain rfl : d = d' := e; exact h) ?_
  simp only [pickB]
  repeat (go_big_quiet_step (fail))
  refine wpQuiet_nil ?_
  refine held_one (i := 0) (by kernel_rfl) fun K hK => ?_
  simp only [List.drop_succ_cons, List.drop_zero, List.take_succ_cons, List.take_zero]
  go_wp2_with fail
  refine Calls.mono (Sift.new_any _) ?_
  rintro e w2 ⟨s, rfl, H2⟩
  have H3 := HC.out.drew.add H2
  have HC3 : St w none0 w2 [cellA w.heap.size [.int .i64 mode, .int .i64 hold]] := (H3.front 1 rfl).drops 1
  clear H2
  replace H3 := Lib.hid H3; replace HC3 := Lib.hid HC3
  go_wp2_with fail
  refine hK _ _ HC3.out ?_
  clear hK K
  refine held_one (i := 1) (by kernel_rfl) fun K hK => ?_
  simp only [List.drop_succ_cons, List.drop_zero, List.take_succ_cons, List.take_zero]
  go_wp2_with fail
  refine Calls.mono (P2.out _) ?_
  rintro e w3 ⟨k, rfl, H4⟩
  have H5 := H3.out.add H4
  have HC5 : St w none0 w3 [cellA w.heap.size [.int .i64 mode, .int .i64 hold]] := (H5.front 2 rfl).drops 1
  clear H4 H3 P2 HC3
  replace H5 := Lib.hid H5; replace HC5 := Lib.hid HC5
  go_wp2_with fail
  refine hK _ _ HC5.out ?_
  clear hK K
  refine held_one (i := 3) (by kernel_rfl) fun K hK => ?_
  simp only [List.drop_succ_cons, List.drop_zero, List.take_succ_cons, List.take_zero]
  go_wp2_with fail
  refine hK _ _ HC5.out ?_
  clear hK K
  refine held_one (i := 4) (by kernel_rfl) fun K hK => ?_
  simp only [List.drop_succ_cons, List.drop_zero, List.take_succ_cons, List.take_zero]
  go_wp2_with fail
  have H6 := H5.out.alloc (ordC s k (new0 mode hold)) 114
  have HC6 := (H6.front 3 rfl).drops 1
  refine hK _ _ HC6 ?_
  clear hK K
  replace H6 := Lib.hid H6; replace HC6 := Lib.hid HC6
  refine held_one (i := 5) (by kernel_rfl) fun K hK => ?_
  simp only [List.drop_succ_cons, List.drop_zero, List.take_succ_cons, List.take_zero]
  go_wp2_with fail
  refine hK _ _ HC6.out ?_
  clear hK K
  refine held_one (i := 6) (by kernel_rfl) fun K hK => ?_
  simp only [List.drop_succ_cons, List.drop_zero, List.take_succ_cons, List.take_zero]
  go_wp2_with fail
  refine hK _ _ HC6.out ?_
  clear hK K
  refine held_done (by kernel_rfl) ?_
  go_wp2_with fail
  go_ret2
  exact ⟨_, rfl, (order_shut (H6.out.arrN [0, 2, 1] rfl)).drops 1⟩
theorem now_any (o : Nat) (x : Or) (w : World) (S : Nat → Prop) (h : (orderA o x).holds w S) : Calls Try.prog 42 #[.pointer (some ⟨o, 0, none⟩)] w (Ret w (.int .i64 x.now)) := by
  obtain ⟨s, k, H⟩ := order_parts (St.start (Sep.one h))
  obtain ⟨z, c, f⟩ := H.box 0 rfl
  unfold ordC at c
  clear h H
  go_enter Try.func42, Try.ntmps42
  go_wp2_with fail
  go_ret
  exact Ret.mk rfl (by repeat (first | with_reducible exact Below.refl _ _ | (with_reducible refine Below.al ?_) | (with_reducible refine Below.drew ?_) | (with_reducible refine Below.set ?_ (by first | (simp; done) | omega | (simp; omega))) | (with_reducible refine Below.thru ?_ (by assumption)) | (with_reducible refine Below.chg ?_ (by assumption) (by first | (simp; done) | omega | (simp; omega)))))
theorem waits_any (o : Nat) (x : Or) (w : World) (S : Nat → Prop) (h : (orderA o x).holds w S) : Calls Try.prog 35 #[.pointer (some ⟨o, 0, none⟩)] w (Ret w (.int .i64 x.l.length)) := by
  obtain ⟨s, k, H⟩ := order_parts (St.start (Sep.one h))
  obtain ⟨z, c, f⟩ := H.box 0 rfl
  obtain ⟨S1, hS1⟩ := H.held 1 rfl
  have P := Sift.len_any s x.c x.l w S1 hS1
  unfold ordC at c
  clear h H hS1
  replace P := Lib.hid P
  go_enter Try.func35, Try.ntmps35
  go_wp2_with fail
  refine Calls.mono (P.out) ?_
  rintro e w1 ⟨rfl, hb1⟩
  have z1 := Below.size hb1; try simp only [World.size_alloc, World.size_setCell, World.size_drew] at z1
  go_wp2_with fail
  go_ret
  exact Ret.mk rfl (by repeat (first | with_reducible exact Below.refl _ _ | (with_reducible refine Below.al ?_) | (with_reducible refine Below.drew ?_) | (with_reducible refine Below.set ?_ (by first | (simp; done) | omega | (simp; omega))) | (with_reducible refine Below.thru ?_ (by assumption)) | (with_reducible refine Below.chg ?_ (by assumption) (by first | (simp; done) | omega | (simp; omega)))))
theorem ready_any (o : Nat) (x : Or) (w : World) (S : Nat → Prop) (h : (orderA o x).holds w S) : Calls Try.prog 40 #[.pointer (some ⟨o, 0, none⟩)] w (Ret w (.int .i64 x.rdy.length)) := by
  obtain ⟨s, k, H⟩ := order_parts (St.start (Sep.one h))
  obtain ⟨z, c, f⟩ := H.box 0 rfl
  obtain ⟨S1, hS1⟩ := H.held 2 rfl
  have P := DockDg.len_any k 32 x.rdy w S1 hS1
  unfold ordC at c
  clear h H hS1
  replace P := Lib.hid P
  go_enter Try.func40, Try.ntmps40
  go_wp2_with fail
  refine Calls.mono (P.out) ?_
  rintro e w1 ⟨rfl, hb1⟩
  have z1 := Below.size hb1; try simp only [World.size_alloc, World.size_setCell, World.size_drew] at z1
  go_wp2_with fail
  go_ret
  exact Ret.mk rfl (by repeat (first | with_reducible exact Below.refl _ _ | (with_reducible refine Below.al ?_) | (with_reducible refine Below.drew ?_) | (with_reducible refine Below.set ?_ (by first | (simp; done) | omega | (simp; omega))) | (with_reducible refine Below.thru ?_ (by assumption)) | (with_reducible refine Below.chg ?_ (by assumption) (by first | (simp; done) | omega | (simp; omega)))))
/-- The counts, as they are told. -/
def cntV (x : Or) : Value := .agg #[.int .i64 x.came, .int .i64 x.ref, .int .i64 x.spl, .int .i64 x.giv, .int .i64 (x.c - x.rel)]
set_option maxRecDepth 100000 in
theorem counts_any (o : Nat) (x : Or) (hb : isI64 (x.c - x.rel)) (w : World) (S : Nat → Prop) (h : (orderA o x).holds w S) : Calls Try.prog 39 #[.pointer (some ⟨o, 0, none⟩)] w (Ret w (cntV x)) := by
  obtain ⟨s, k, H⟩ := order_parts (St.start (Sep.one h))
  have H1 := (H.alloc [.int .i64 0, .int .i64 0, .int .i64 0, .int .i64 0, .int .i64 0] 75).alloc [.int .i64 x.came, .int .i64 x.ref, .int .i64 x.spl, .int .i64 x.giv, .int .i64 0] 75
  simp only [World.size_alloc] at H1
  obtain ⟨z, c, f⟩ := H.box 0 rfl
  have n1 := H1.ne_cells 0 2 rfl rfl (by decide)
  have n2 := H1.ne_cells 1 2 rfl rfl (by decide)
  have n3 : ¬ o = w.heap.size + 1 := fun e => n1 e.symm
  have n4 : ¬ o = w.heap.size := fun e => n2 e.symm
  unfold ordC at c
  have hw : wrap64 (x.c - x.rel) = x.c - x.rel := by unfold isI64 at hb; unfold wrap64; omega
  clear h H
  replace H1 := Lib.hid H1
  go_enter Try.func39, Try.ntmps39
  go_wp2_with fail
  have H2 := H1.out
  obtain ⟨W, hW⟩ : ∃ W, W = ((w.alloc (.cells #[.int .i64 0, .int .i64 0, .int .i64 0, .int .i64 0, .int .i64 0] 75)).alloc (.cells #[.int .i64 x.came, .int .i64 x.ref, .int .i64 x.spl, .int .i64 x.giv, .int .i64 0] 75)) := ⟨_, rfl⟩
  change St w S ((w.alloc (.cells #[.int .i64 0, .int .i64 0, .int .i64 0, .int .i64 0, .int .i64 0] 75)).alloc (.cells #[.int .i64 x.came, .int .i64 x.ref, .int .i64 x.spl, .int .i64 x.giv, .int .i64 0] 75)) _ at H2
  rw [← hW] at H2 ⊢
  clear c f z H1
  obtain ⟨z, c, f⟩ := H2.box 2 rfl
  unfold ordC at c
  obtain ⟨z1, c1, f1⟩ := H2.box 0 rfl
  obtain ⟨z2, c2, f2⟩ := H2.box 1 rfl
  have PC := fun (s : Near W.heap.size W) => cursor_st ((H2.thruB (by simp) (Near.near s)).front 3 rfl)
  have hW' := Lib.hid hW
  clear hW
  replace H2 := Lib.hid H2; replace PC := Lib.hid PC
  refine wp_region_near_tail 11 (by kernel_rfl) (by kernel_rfl) ?_
  intro hs
  simp only [List.take_succ_cons, List.take_zero, List.drop_succ_cons, List.drop_zero]
  repeat (go_big_quiet_step ((go_at_call 25; exact Calls.near (by simp) (PC.out _))))
  refine wpQuiet_nil ?_
  clear hs
  intro w3 hb3
  have H3 := H2.out.thru hb3
  obtain ⟨z4, c4, f4⟩ := H3.box 0 rfl
  obtain ⟨z5, c5, f5⟩ := H3.box 1 rfl
  have hbW : Below w.heap.size w W := by rw [hW'.out]; exact (by repeat (first | with_reducible exact Below.refl _ _ | (with_reducible refine Below.al ?_) | (with_reducible refine Below.drew ?_) | (with_reducible refine Below.set ?_ (by first | (simp; done) | omega | (simp; omega))) | (with_reducible refine Below.thru ?_ (by assumption)) | (with_reducible refine Below.chg ?_ (by assumption) (by first | (simp; done) | omega | (simp; omega)))))
  have zw := hbW.size
  have zw3 := hb3.size
  clear H2 PC c f z c1 f1 z1 c2 f2 z2
  replace H3 := Lib.hid H3
  go_wp2_with fail
  unfold cntV
  refine bodyPost_ret (v := .agg #[.int .i64 x.came, .int .i64 x.ref, .int .i64 x.spl, .int .i64 x.giv, .int .i64 (x.c - x.rel)]) (by simp [results, Try.results39, go_sem, c5, z5]; try rfl) rfl (Ret.mk rfl ?_)
  repeat (first | (with_reducible exact Below.thru hbW hb3) | (with_reducible refine Below.set ?_ (by first | (simp; done) | omega | (simp; omega))))
end Go.Proofs.Ytiaefmmcakagpaa.Ord

/- The walk of the package order's release. -/
namespace Go.Proofs.Ytiaefmmcakagpaa.Ord
set_option linter.unusedSimpArgs false
set_option linter.unusedVariables false
open Go Go.RowKit Go.Shelf Go.Proofs.Ytiaefmmcakagpaa Go.Proofs.Ytiaefmmcakagpaa.Sift Go.Proofs.Ytiaefmmcakagpaa.Hold
open Go.Proofs.Ytiaefmmcakagpaa.DockWait (El enc val encs placed headV)
attribute [local irreducible] Calls

/-- An order's own cells, while j of what is released were laid to be received. -/
def relX (x : Or) (p : List Dg × Int) : Or := { x with rdy := p.1, spl := p.2 }
set_option maxRecDepth 100000 in
set_option maxHeartbeats 2000000 in
theorem release_st {W w : World} {S0 : Nat → Prop} {r : List Asn} (o : Nat) (x : Or) (v : Value) (ds : List Dg) (hd : ds.length ≤ 100) (hb : 0 ≤ x.spl ∧ x.spl ≤ 100000 ∧ 0 ≤ x.rel ∧ x.rel ≤ 100000 ∧ x.rdy.length ≤ 32)
    (s k : Nat) (H : St W S0 w (orderP o s k x :: rowA 2 v ds.length (dgs ds) :: r)) :
    Calls Try.prog 76 #[.pointer (some ⟨o, 0, none⟩), v] w (fun e w' => e = .returned (.int .i64 ds.length) ∧ St W S0 w' (orderP o s k (relM x ds) :: r)) := by
  have H1 := orderP_open H
  have H2 : St W S0 w (cellA o (ordC s k x) :: siftA s x.c x.l :: DockDg.dockA k 32 x.rdy :: rowA 2 v ds.length (dgs ds) :: r) := H1
  obtain ⟨a, cap, rfl, _⟩ := St.slice (by omega) 3 H2 rfl
  have hfact := fun j => relR_facts (ds.take j) (x.rdy, x.spl) hb.2.2.2.2
  clear H H1
  replace H2 := Lib.hid H2; replace hfact := Lib.hid hfact
  go_enter Try.func76, Try.ntmps76
  go_wp2_with fail
  go_loopg [6, 7, 8, 11] ds.length (fun g _ _ _ v11 wr => ∃ j : Nat, j ≤ ds.length ∧ Hid (g = ds.length - j) ∧ v11 = .int .i64 j ∧ Hid (St W S0 wr (cellA o (ordC s k (relX x (relR (x.rdy, x.spl) (ds.take j)))) :: siftA s x.c x.l :: DockDg.dockA k 32 (relR (x.rdy, x.spl) (ds.take j)).1 :: rowA 2 (.slice a ds.length cap) ds.length (dgs ds) :: r)))
  case atStart => exact ⟨0, by omega, Lib.hid rfl, rfl, H2⟩
  case round =>
    obtain ⟨j, hj, hg, rfl, hst⟩ := hrel
    clear H2
    by_cases hlt : j < ds.length
    · obtain ⟨b, off, rfl, hbk, hc⟩ := dgs_at (St.rd (by omega) 3 hst.out rfl) rfl (by omega)
      obtain ⟨e0, e1⟩ := hc j hlt
      have hp := hfact.out j
      have hsn : relR (x.rdy, x.spl) (ds.take (j + 1)) = stepR (relR (x.rdy, x.spl) (ds.take j)) ds[j] := by rw [List.take_succ_eq_append_getElem hlt, relR_snoc]
      rw [List.length_take, show min j ds.length = j by omega] at hp
      generalize relR (x.rdy, x.spl) (ds.take j) = p at *
      generalize ds[j] = d at *
      obtain ⟨d1, d2⟩ := d
      obtain ⟨p1, p2⟩ := p
      simp only at e0 e1 hp hsn
      obtain ⟨q1, q2, q3, _⟩ := hp
      have H3 : St W S0 _ (cellA o [Value.pointer (some ⟨s, 0, none⟩), .pointer (some ⟨k, 0, none⟩), .int .i64 x.mode, .int .i64 x.hold, .int .i64 x.now, .int .i64 x.rel, .int .i64 x.came, .int .i64 x.ref, .int .i64 p2, .int .i64 x.giv, .int .i64 0] :: cellA wr.heap.size [.int .i64 d1, .string d2] :: siftA s x.c x.l :: DockDg.dockA k 32 p1 :: rowA 2 (.slice (some ⟨b, off, none⟩) ds.length cap) ds.length (dgs ds) :: r) := (hst.out.alloc [.int .i64 d1, .string d2] 45).arrN [1, 0] rfl
      have hq1 : (j : Int) < ds.length := by omega
      have HC : St W S0 _ [cellA o [Value.pointer (some ⟨s, 0, none⟩), .pointer (some ⟨k, 0, none⟩), .int .i64 x.mode, .int .i64 x.hold, .int .i64 x.now, .int .i64 x.rel, .int .i64 x.came, .int .i64 x.ref, .int .i64 p2, .int .i64 x.giv, .int .i64 0], cellA wr.heap.size [.int .i64 d1, .string d2]] := H3.drops 2
      have hcl0 : ∀ (s' : Cls W S0 [cellA o [Value.pointer (some ⟨s, 0, none⟩), .pointer (some ⟨k, 0, none⟩), .int .i64 x.mode, .int .i64 x.hold, .int .i64 x.now, .int .i64 x.rel, .int .i64 x.came, .int .i64 x.ref, .int .i64 p2, .int .i64 x.giv, .int .i64 0], cellA wr.heap.size [.int .i64 d1, .string d2]]) (i : Nat), s'.it.cell? ⟨o, i, none⟩ = [Value.pointer (some ⟨s, 0, none⟩), .pointer (some ⟨k, 0, none⟩), .int .i64 x.mode, .int .i64 x.hold, .int .i64 x.now, .int .i64 x.rel, .int .i64 x.came, .int .i64 x.ref, .int .i64 p2, .int .i64 x.giv, .int .i64 0][i]? := fun s => (s.st.box 0 rfl).cells
      have hcl1 : ∀ (s' : Cls W S0 [cellA o [Value.pointer (some ⟨s, 0, none⟩), .pointer (some ⟨k, 0, none⟩), .int .i64 x.mode, .int .i64 x.hold, .int .i64 x.now, .int .i64 x.rel, .int .i64 x.came, .int .i64 x.ref, .int .i64 p2, .int .i64 x.giv, .int .i64 0], cellA wr.heap.size [.int .i64 d1, .string d2]]) (i : Nat), s'.it.cell? ⟨wr.heap.size, i, none⟩ = [Value.int .i64 d1, .string d2][i]? := fun s => (s.st.box 1 rfl).cells
      obtain ⟨y1, y2, sp, pn, hstep, PG⟩ : ∃ (y1 : Int) (y2 : ByteArray) (sp : Bool) (pn : List Dg), stepR (p1, p2) (d1, d2) = (pn, if sp then p2 + 1 else p2) ∧ ∀ (r' : List Asn) (w' : World), St W S0 w' (DockDg.dockA k 32 p1 :: r') →
          Calls Try.prog 102 #[.pointer (some ⟨k, 0, none⟩), .agg #[.int .i64 d1, .string d2]] w' (Fin W S0 (.tuple #[.agg #[.int .i64 y1, .string y2], .bool sp]) (DockDg.dockA k 32 pn :: r')) := by
        by_cases hl : p1.length < 32
        · exact ⟨0, ⟨#[]⟩, false, p1 ++ [(d1, d2)], by unfold stepR; rw [if_pos hl]; rfl, fun r' w' H' => Calls.st_at 0 H' rfl fun S h => DockDg.spill_room k 32 p1 (d1, d2) _ S h (by omega) (by omega)⟩
        · cases p1 with
          | nil => simp at hl
          | cons y p1 =>
            simp only [List.length_cons] at hl q1
            exact ⟨y.1, y.2, true, p1 ++ [(d1, d2)], by unfold stepR; rw [if_neg (by simp only [List.length_cons]; omega)]; rfl, fun r' w' H' => Calls.st_at 0 H' rfl fun S h => DockDg.spill_full k 32 y p1 (d1, d2) _ S h (by omega) (by simp only [List.length_cons]; omega) (by omega)⟩
      rw [hstep] at hsn
      have H3' := H3.drew
      clear hstep hc hst H3
      replace PG := Lib.hid PG; replace HC := Lib.hid HC; replace H3' := Lib.hid H3'; replace hsn := Lib.hid hsn
      go_wp2_with fail
      haveI := St.ne HC.out
      refine wp_region_madeC HC.out [0, 1, 2, 3, 4] [true, true, true, true, true, false, false, false, false, false, false, false] 7 #[true, true, true, true, true, false, false, false, false, false, false, false] (by kernel_rfl) rfl (by kernel_rfl) (by kernel_rfl) rfl (by kernel_rfl) (by kernel_rfl) (by intro c a a' w e h; obtain ⟨t, d⟩ := a; obtain ⟨t', d'⟩ := a'; obtain rfl : d = d' := e; exact h) ?_
      simp only [pickB]
      repeat (go_big_quiet_step (fail))
      refine wpQuiet_nil ?_
      refine held_two (i := 5) (j := 9) (by kernel_rfl) (fun K hK => ?_) (fun K hK => ?_) <;> simp only [List.drop_succ_cons, List.drop_zero, List.take_succ_cons, List.take_zero]
      · go_wp2_with fail
        refine Calls.mono (PG.out _ _ (H3'.out.front 3 rfl)) ?_
        rintro e w4 ⟨rfl, H4⟩
        have HC4 : St W S0 _ [cellA o [Value.pointer (some ⟨s, 0, none⟩), .pointer (some ⟨k, 0, none⟩), .int .i64 x.mode, .int .i64 x.hold, .int .i64 x.now, .int .i64 x.rel, .int .i64 x.came, .int .i64 x.ref, .int .i64 p2, .int .i64 x.giv, .int .i64 0], cellA wr.heap.size [.int .i64 d1, .string d2]] := (H4.arrN [1, 2, 0] rfl).drops 2
        replace HC4 := Lib.hid HC4
        clear PG H3' HC
        replace H4 := Lib.hid H4
        go_wp2_with fail
        refine hK _ _ HC4.out ?_
        clear hK K
        haveI := St.ne HC4.out
        refine calmC HC4.out [6, 7, 8] [false, false, false, false, false, false, true, true, true, false, false, false] 3 6 #[true, true, true, true, true, true, false, false, false, false, false, false] #[true, true, true, true, true, true, true, true, true, false, false, false] rfl (by kernel_rfl) (by kernel_rfl) rfl (by kernel_rfl) (by kernel_rfl) (by intro c a a' w e h; obtain ⟨t, d⟩ := a; obtain ⟨t', d'⟩ := a'; obtain rfl : d = d' := e; exact h) ?_
        simp only [pickB]
        repeat (go_big_quiet_step (fail))
        refine wpQuiet_nil ?_
        refine held_one (i := 9) (by kernel_rfl) fun K hK => ?_
        simp only [List.drop_succ_cons, List.drop_zero, List.take_succ_cons, List.take_zero]
        go_wp2_with fail
        have H5 := H4.out.alloc [.int .i64 0, .string ⟨#[]⟩] 45
        have HC5 : St W S0 _ [cellA o [Value.pointer (some ⟨s, 0, none⟩), .pointer (some ⟨k, 0, none⟩), .int .i64 x.mode, .int .i64 x.hold, .int .i64 x.now, .int .i64 x.rel, .int .i64 x.came, .int .i64 x.ref, .int .i64 p2, .int .i64 x.giv, .int .i64 0], cellA wr.heap.size [.int .i64 d1, .string d2]] := (H5.arrN [2, 3, 0, 1] rfl).drops 2
        replace HC5 := Lib.hid HC5
        refine hK _ _ HC5.out ?_
        clear hK K
        obtain ⟨z5, c5, f5⟩ := H5.box 0 rfl
        refine held_one (i := 10) (by kernel_rfl) fun K hK => ?_
        simp only [List.drop_succ_cons, List.drop_zero, List.take_succ_cons, List.take_zero]
        have H6 := H4.out.alloc [.int .i64 y1, .string y2] 45
        have HC6 : St W S0 _ [cellA o [Value.pointer (some ⟨s, 0, none⟩), .pointer (some ⟨k, 0, none⟩), .int .i64 x.mode, .int .i64 x.hold, .int .i64 x.now, .int .i64 x.rel, .int .i64 x.came, .int .i64 x.ref, .int .i64 p2, .int .i64 x.giv, .int .i64 0], cellA wr.heap.size [.int .i64 d1, .string d2]] := (H6.arrN [2, 3, 0, 1] rfl).drops 2
        replace HC6 := Lib.hid HC6
        replace H5 := Lib.hid H5
        replace H6 := Lib.hid H6
        go_wp2_with fail
        refine hK _ _ HC6.out ?_
        clear hK K
        refine held_one (i := 11) (by kernel_rfl) fun K hK => ?_
        simp only [List.drop_succ_cons, List.drop_zero, List.take_succ_cons, List.take_zero]
        go_wp2_with fail
        refine hK _ _ HC6.out ?_
        clear hK K
        refine held_done (by kernel_rfl) ?_
        have H7 := H6.out
        clear H5 HC4 HC5 HC6 H6
        obtain ⟨z8, c8, f8⟩ := H7.box 2 rfl
        cases sp with
        | true =>
          have H9 := (((H7.set 2 rfl 8 (.int .i64 (p2 + 1)) (by simp)).arrN [0, 4, 2, 5, 1, 3] rfl).drop 4 rfl).drop 4 rfl
          replace H7 := Lib.hid H7; replace H9 := Lib.hid H9
          go_wp2_with fail
          go_roundg (ds.length - (j + 1))
          case measure => have := hg.out; omega
          case rel => exact ⟨j + 1, by omega, Lib.hid rfl, by go_num, Lib.hid (by rw [hsn.out]; exact H9.out)⟩
        | false =>
          have H9 := ((H7.arrN [2, 4, 1, 5, 0, 3] rfl).drop 4 rfl).drop 4 rfl
          replace H7 := Lib.hid H7; replace H9 := Lib.hid H9
          go_wp2_with fail
          go_roundg (ds.length - (j + 1))
          case measure => have := hg.out; omega
          case rel => exact ⟨j + 1, by omega, Lib.hid rfl, by go_num, Lib.hid (by rw [hsn.out]; exact H9.out)⟩
      · go_wp2_with fail
        have HA := H3'.out.alloc [.int .i64 0, .string ⟨#[]⟩] 45
        simp only [World.size_drew, World.size_alloc] at HA
        have HCA : St W S0 _ [cellA o [Value.pointer (some ⟨s, 0, none⟩), .pointer (some ⟨k, 0, none⟩), .int .i64 x.mode, .int .i64 x.hold, .int .i64 x.now, .int .i64 x.rel, .int .i64 x.came, .int .i64 x.ref, .int .i64 p2, .int .i64 x.giv, .int .i64 0], cellA wr.heap.size [.int .i64 d1, .string d2]] := (HA.arrN [1, 2, 0] rfl).drops 2
        replace HCA := Lib.hid HCA
        refine hK _ _ HCA.out ?_
        clear hK K
        replace HA := Lib.hid HA
        refine held_one (i := 5) (by kernel_rfl) fun K hK => ?_
        simp only [List.drop_succ_cons, List.drop_zero, List.take_succ_cons, List.take_zero]
        go_wp2_with fail
        refine Calls.mono (PG.out _ _ (HA.out.front 4 rfl)) ?_
        rintro e w4 ⟨rfl, H4⟩
        have HC4 : St W S0 _ [cellA o [Value.pointer (some ⟨s, 0, none⟩), .pointer (some ⟨k, 0, none⟩), .int .i64 x.mode, .int .i64 x.hold, .int .i64 x.now, .int .i64 x.rel, .int .i64 x.came, .int .i64 x.ref, .int .i64 p2, .int .i64 x.giv, .int .i64 0], cellA wr.heap.size [.int .i64 d1, .string d2]] := (H4.arrN [2, 3, 0, 1] rfl).drops 2
        replace HC4 := Lib.hid HC4
        clear PG H3' HC HA HCA
        obtain ⟨z5, c5, f5⟩ := H4.box 1 rfl
        replace H4 := Lib.hid H4
        go_wp2_with fail
        refine hK _ _ HC4.out ?_
        clear hK K
        haveI := St.ne HC4.out
        refine calmC HC4.out [6, 7, 8] [false, false, false, false, false, false, true, true, true, false, false, false] 2 5 #[true, true, true, true, true, true, false, false, false, true, false, false] #[true, true, true, true, true, true, true, true, true, true, false, false] rfl (by kernel_rfl) (by kernel_rfl) rfl (by kernel_rfl) (by kernel_rfl) (by intro c a a' w e h; obtain ⟨t, d⟩ := a; obtain ⟨t', d'⟩ := a'; obtain rfl : d = d' := e; exact h) ?_
        simp only [pickB]
        repeat (go_big_quiet_step (fail))
        refine wpQuiet_nil ?_
        refine held_one (i := 10) (by kernel_rfl) fun K hK => ?_
        simp only [List.drop_succ_cons, List.drop_zero, List.take_succ_cons, List.take_zero]
        have H6 := ((((H4.out.front 1 rfl).set 0 rfl 0 (.int .i64 y1) (by simp))).set 0 rfl 1 (.string y2) (by simp))
        have HC6 : St W S0 _ [cellA o [Value.pointer (some ⟨s, 0, none⟩), .pointer (some ⟨k, 0, none⟩), .int .i64 x.mode, .int .i64 x.hold, .int .i64 x.now, .int .i64 x.rel, .int .i64 x.came, .int .i64 x.ref, .int .i64 p2, .int .i64 x.giv, .int .i64 0], cellA wr.heap.size [.int .i64 d1, .string d2]] := (H6.arrN [2, 3, 0, 1] rfl).drops 2
        replace HC6 := Lib.hid HC6
        replace H6 := Lib.hid H6
        go_wp2_with fail
        refine hK _ _ HC6.out ?_
        clear hK K
        refine held_one (i := 11) (by kernel_rfl) fun K hK => ?_
        simp only [List.drop_succ_cons, List.drop_zero, List.take_succ_cons, List.take_zero]
        go_wp2_with fail
        refine hK _ _ HC6.out ?_
        clear hK K
        refine held_done (by kernel_rfl) ?_
        have H7 := H6.out
        clear HC4 HC6 H6
        obtain ⟨z8, c8, f8⟩ := H7.box 2 rfl
        cases sp with
        | true =>
          have H9 := (((H7.set 2 rfl 8 (.int .i64 (p2 + 1)) (by simp)).arrN [0, 4, 2, 5, 1, 3] rfl).drop 4 rfl).drop 4 rfl
          replace H7 := Lib.hid H7; replace H9 := Lib.hid H9
          go_wp2_with fail
          go_roundg (ds.length - (j + 1))
          case measure => have := hg.out; omega
          case rel => exact ⟨j + 1, by omega, Lib.hid rfl, by go_num, Lib.hid (by rw [hsn.out]; exact H9.out)⟩
        | false =>
          have H9 := ((H7.arrN [2, 4, 1, 5, 0, 3] rfl).drop 4 rfl).drop 4 rfl
          replace H7 := Lib.hid H7; replace H9 := Lib.hid H9
          go_wp2_with fail
          go_roundg (ds.length - (j + 1))
          case measure => have := hg.out; omega
          case rel => exact ⟨j + 1, by omega, Lib.hid rfl, by go_num, Lib.hid (by rw [hsn.out]; exact H9.out)⟩
    · have hj2 : j = ds.length := by omega
      rw [hj2, List.take_length] at hst
      obtain ⟨z8, c8, f8⟩ := hst.out.box 0 rfl
      unfold ordC relX at c8
      have H9 := ((hst.out.set 0 rfl 5 (.int .i64 (x.rel + ds.length)) (by simp [ordC])).drop 3 rfl)
      clear hj2
      replace hst := Lib.hid hst; replace H9 := Lib.hid H9
      go_wp2_with fail
      go_ret
      exact ⟨rfl, orderP_shut H9.out⟩
end Go.Proofs.Ytiaefmmcakagpaa.Ord

/- The walks of the package order's Tick, Flush, Recv, Set. -/
namespace Go.Proofs.Ytiaefmmcakagpaa.Ord
set_option linter.unusedSimpArgs false
set_option linter.unusedVariables false
open Go Go.RowKit Go.Shelf Go.Proofs.Ytiaefmmcakagpaa Go.Proofs.Ytiaefmmcakagpaa.Sift Go.Proofs.Ytiaefmmcakagpaa.Hold
open Go.Proofs.Ytiaefmmcakagpaa.DockWait (El enc val encs placed headV)
attribute [local irreducible] Calls

def dueK (x : Or) (now : Int) : Nat := (dueM x.c x.l now).1.length
theorem due_len {x : Or} {n : Nat} {last : Int} (hg : Good x n last) (now : Int) : dueK x now ≤ 32 := by
  obtain ⟨m, hr⟩ := due_rel x.c x.l now hg.ok.up
  unfold dueK
  rw [hr.out, List.length_map, List.length_take]
  have := hg.len
  omega
theorem due_at {W w : World} {S0 : Nat → Prop} {r : List Asn} {o s k : Nat} {x : Or} {n : Nat} {last : Int} (hg : Good x n last) (now : Int) (H : St W S0 w (cellA o (ordC s k x) :: siftA s x.c x.l :: DockDg.dockA k 32 x.rdy :: r)) :
    Calls Try.prog 23 #[.pointer (some ⟨s, 0, none⟩), .int .i64 now] w (fun e w' => ∃ v', e = .returned v' ∧ St W S0 w' (orderP o s k { x with c := (dueM x.c x.l now).2.1, l := (dueM x.c x.l now).2.2 } :: rowA 2 v' (dueM x.c x.l now).1.length (dgs (dueM x.c x.l now).1) :: r)) := by
  have P := ex_at 1 H rfl fun S h => due_any s x.c x.l now (by have := hg.len; omega) hg.ok.c0 hg.ok.c1 hg.ok.pos _ S h
  refine P.mono ?_
  rintro e w' ⟨v', rfl, h⟩
  exact ⟨v', rfl, orderP_shut (h.arrN [2, 1, 3, 0] rfl)⟩
theorem release_due {W w : World} {S0 : Nat → Prop} {r : List Asn} {o s k : Nat} {x : Or} {n : Nat} {last : Int} (hg : Good x n last) (hn : n ≤ 1000) (now : Int) (v : Value)
    (H : St W S0 w (orderP o s k { x with c := (dueM x.c x.l now).2.1, l := (dueM x.c x.l now).2.2 } :: rowA 2 v (dueM x.c x.l now).1.length (dgs (dueM x.c x.l now).1) :: r)) :
    Calls Try.prog 76 #[.pointer (some ⟨o, 0, none⟩), v] w (fun e w' => e = .returned (.int .i64 (dueK x now)) ∧ St W S0 w' (orderP o s k (dueS x now) :: r)) := by
  have h1 := due_len hg now
  have h2 := hg.bds
  have h3 := hg.s0
  exact release_st o { x with c := (dueM x.c x.l now).2.1, l := (dueM x.c x.l now).2.2 } v (dueM x.c x.l now).1 (by unfold dueK at h1; omega) ⟨h3, by show x.spl ≤ 100000; omega, h2.1, by show x.rel ≤ 100000; omega, hg.rlen⟩ s k H

set_option maxRecDepth 100000 in
set_option maxHeartbeats 1000000 in
theorem tick_st {W w : World} {S0 : Nat → Prop} {r : List Asn} (o s k : Nat) (x : Or) {n : Nat} {last : Int} (hg : Good x n last) (hn : n ≤ 1000) (H : St W S0 w (orderP o s k x :: r)) :
    Calls Try.prog 44 #[.pointer (some ⟨o, 0, none⟩)] w (fun e w' => e = .returned (.int .i64 (dueK (tickA x) (tickA x).now)) ∧ St W S0 w' (orderP o s k (tickS x) :: r)) := by
  have H1 := orderP_open H
  obtain ⟨z, c, f⟩ := H1.box 0 rfl
  have h0 := hg.n0
  have h1 := hg.n1
  have hg2 := hg.tickA
  have H2 : St W S0 _ (cellA o (ordC s k (tickA x)) :: siftA s (tickA x).c (tickA x).l :: DockDg.dockA k 32 (tickA x).rdy :: r) := H1.set 0 rfl 4 (.int .i64 (min (x.now + 1) 1099511627776)) (by simp [ordC])
  have HC : St W S0 _ [ordE o s k (tickA x).mode (tickA x).hold (tickA x).now] := (ordE_of H2).drops 1
  have hcl : ∀ (s' : Cls W S0 [ordE o s k (tickA x).mode (tickA x).hold (tickA x).now]), s'.it.cell? ⟨o, 0, none⟩ = some (.pointer (some ⟨s, 0, none⟩)) ∧ s'.it.cell? ⟨o, 4, none⟩ = some (.int .i64 (tickA x).now) := fun s' => ⟨(ordE_cell s'.st).1, (ordE_cell s'.st).2.2.2⟩
  have hcl0 := fun s' => (hcl s').1
  have hcl4 := fun s' => (hcl s').2
  unfold tickS
  unfold ordC at c
  have hnow : (tickA x).now = min (x.now + 1) 1099511627776 := rfl
  clear hcl H1 H
  generalize tickA x = y at *
  have P := due_at hg2 (min (x.now + 1) 1099511627776) H2.drew
  rw [hnow] at hcl4 HC hcl0 ⊢
  replace H2 := Lib.hid H2; replace HC := Lib.hid HC; replace P := Lib.hid P; replace hnow := Lib.hid hnow
  go_enter Try.func44, Try.ntmps44
  go_wp2_with fail
  haveI := St.ne HC.out
  refine wp_region_madeC HC.out [0, 1, 2, 3, 4, 5, 6, 7, 8] [true, true, true, true, true, true, true, true, true, false, false, false] 3 #[true, true, true, true, true, true, true, true, true, false, false, false] (by kernel_rfl) rfl (by kernel_rfl) (by kernel_rfl) rfl (by kernel_rfl) (by kernel_rfl) (by intro c a a' w e h; obtain ⟨t, d⟩ := a; obtain ⟨t', d'⟩ := a'; obtain rfl : d = d' := e; exact h) ?_
  simp only [pickB]
  repeat (go_big_quiet_step (fail))
  refine wpQuiet_nil ?_
  refine held_one (i := 9) (by kernel_rfl) fun K hK => ?_
  simp only [List.drop_succ_cons, List.drop_zero, List.take_succ_cons, List.take_zero]
  go_wp2_with fail
  refine Calls.mono P.out ?_
  rintro e w4 ⟨v4, rfl, H4⟩
  have HC4 : St W S0 w4 [ordE o s k y.mode y.hold (min (x.now + 1) 1099511627776)] := by rw [← hnow.out]; exact (ordE_of (orderP_open H4)).drops 1
  have P2 := release_due hg2 hn (min (x.now + 1) 1099511627776) v4 H4
  clear P H4 H2
  replace HC4 := Lib.hid HC4; replace P2 := Lib.hid P2
  go_wp2_with fail
  refine hK _ _ HC4.out ?_
  clear hK K
  refine held_one (i := 10) (by kernel_rfl) fun K hK => ?_
  simp only [List.drop_succ_cons, List.drop_zero, List.take_succ_cons, List.take_zero]
  go_wp2_with fail
  refine Calls.mono P2.out ?_
  rintro e w5 ⟨rfl, H5⟩
  have HC5 : St W S0 w5 [ordE o s k y.mode y.hold (min (x.now + 1) 1099511627776)] := by rw [← hnow.out]; exact (ordE_of (orderP_open H5)).drops 1
  clear P2
  replace HC5 := Lib.hid HC5; replace H5 := Lib.hid H5
  go_wp2_with fail
  refine hK _ _ HC5.out ?_
  clear hK K
  refine held_one (i := 11) (by kernel_rfl) fun K hK => ?_
  simp only [List.drop_succ_cons, List.drop_zero, List.take_succ_cons, List.take_zero]
  go_wp2_with fail
  refine hK _ _ HC5.out ?_
  clear hK K
  refine held_done (by kernel_rfl) ?_
  go_wp2_with fail
  go_ret
  exact ⟨rfl, H5.out⟩
set_option maxRecDepth 100000 in
set_option maxHeartbeats 1000000 in
theorem flush_st {W w : World} {S0 : Nat → Prop} {r : List Asn} (o s k : Nat) (x : Or) {n : Nat} {last : Int} (hg : Good x n last) (hn : n ≤ 1000) (H : St W S0 w (orderP o s k x :: r)) :
    Calls Try.prog 43 #[.pointer (some ⟨o, 0, none⟩)] w (fun e w' => e = .returned (.int .i64 (dueK x (lateM x.l).1)) ∧ St W S0 w' (orderP o s k (flushS x) :: r)) := by
  have H1 := orderP_open H
  obtain ⟨z, c, f⟩ := H1.box 0 rfl
  have P := Calls.st_at 1 H1 rfl fun S h => latest_any s x.c x.l (by have := hg.len; omega) _ S h
  unfold flushS
  unfold ordC at c
  clear H1 H
  generalize lateM x.l = R at *
  obtain ⟨R1, R2⟩ := R
  simp only at P ⊢
  replace P := Lib.hid P
  go_enter Try.func43, Try.ntmps43
  go_wp2_with fail
  refine Calls.mono P.out ?_
  rintro e w4 ⟨rfl, H4⟩
  have H5 : St W S0 w4 (cellA o (ordC s k x) :: siftA s x.c x.l :: DockDg.dockA k 32 x.rdy :: r) := H4.arrN [1, 0] rfl
  obtain ⟨z5, c5, f5⟩ := H5.box 0 rfl
  unfold ordC at c5
  have P1 := due_at hg R1 H5
  clear P H4 H5 c f z
  replace P1 := Lib.hid P1
  go_wp2_with fail
  refine Calls.mono P1.out ?_
  rintro e w6 ⟨v6, rfl, H6⟩
  have P2 := release_due hg hn R1 v6 H6
  clear P1 H6
  replace P2 := Lib.hid P2
  go_wp2_with fail
  refine Calls.mono P2.out ?_
  rintro e w7 ⟨rfl, H7⟩
  clear P2
  replace H7 := Lib.hid H7
  go_wp2_with fail
  go_ret
  exact ⟨rfl, H7.out⟩
end Go.Proofs.Ytiaefmmcakagpaa.Ord

/- The walks of the package order's Recv and Set, and of an order that is none. -/
namespace Go.Proofs.Ytiaefmmcakagpaa.Ord
set_option linter.unusedSimpArgs false
set_option linter.unusedVariables false
open Go Go.RowKit Go.Shelf Go.Proofs.Ytiaefmmcakagpaa Go.Proofs.Ytiaefmmcakagpaa.Sift Go.Proofs.Ytiaefmmcakagpaa.Hold
open Go.Proofs.Ytiaefmmcakagpaa.DockWait (El enc val encs placed headV)
attribute [local irreducible] Calls

set_option maxRecDepth 100000 in
set_option maxHeartbeats 1000000 in
theorem recv_st {W w : World} {S0 : Nat → Prop} {r : List Asn} (o s k : Nat) (x : Or) {n : Nat} {last : Int} (hg : Good x n last) (hn : n ≤ 1000) (H : St W S0 w (orderP o s k x :: r)) :
    Calls Try.prog 34 #[.pointer (some ⟨o, 0, none⟩)] w (fun e w' => e = .returned (.tuple #[.agg #[.int .i64 (recvD x).1, .string (recvD x).2], .bool !x.rdy.isEmpty]) ∧ St W S0 w' (orderP o s k (recvS x) :: r)) := by
  obtain ⟨z, c, f⟩ := (orderP_open H).box 0 rfl
  unfold ordC at c
  have n1 : ¬ o = w.heap.size := by omega
  have n2 : ¬ w.heap.size = o := by omega
  have H1 : St W S0 _ (cellA w.heap.size [.int .i64 0, .string ⟨#[]⟩] :: cellA o (ordC s k x) :: siftA s x.c x.l :: DockDg.dockA k 32 x.rdy :: r) := (orderP_open H).alloc [.int .i64 0, .string ⟨#[]⟩] 45
  have hgb := hg.bds
  have hg0 := hg.g0
  clear H
  obtain ⟨mode, hold, now, rel, came, ref, spl, giv, cc, l, rdy⟩ := x
  simp only at *
  cases rdy with
  | nil =>
    obtain ⟨S1, hS1⟩ := H1.held 3 rfl
    have P := DockDg.pull_nil k 32 _ S1 hS1
    clear hS1
    replace P := Lib.hid P; replace H1 := Lib.hid H1
    go_enter Try.func34, Try.ntmps34
    go_wp2_with fail
    refine Calls.mono (P.out) ?_
    rintro e w3 ⟨rfl, hb3⟩
    have z3 := Below.size hb3; try simp only [World.size_alloc, World.size_setCell, World.size_drew] at z3
    have H4 : St W S0 _ (cellA w.heap.size [.int .i64 0, .string ⟨#[]⟩] :: cellA o (ordC s k ⟨mode, hold, now, rel, came, ref, spl, giv, cc, l, []⟩) :: siftA s cc l :: DockDg.dockA k 32 [] :: r) := H1.out.thru hb3
    obtain ⟨z4, c4, f4⟩ := H4.box 0 rfl
    have n5 : ¬ w.heap.size = w3.heap.size := by omega
    have n6 : ¬ w3.heap.size = w.heap.size := by omega
    clear P H1
    replace H4 := Lib.hid H4
    go_wp2_with fail
    have H5 := (((((H4.out).set 0 rfl 0 (.int .i64 0) (by simp))).set 0 rfl 1 (.string ⟨#[]⟩) (by simp))).skip (.cells #[.int .i64 0, .string ⟨#[]⟩] 45)
    refine bodyPost_ret (v := .tuple #[.agg #[.int .i64 0, .string ⟨#[]⟩], .bool false]) (by simp [results, Try.results34, go_sem, c4, z4, n5]; try rfl) rfl ⟨rfl, ?_⟩
    exact orderP_shut (H5.drop 0 rfl)
  | cons d t =>
    obtain ⟨d1, d2⟩ := d
    have P := Calls.st_at 3 H1 rfl fun S h => DockDg.pull_cons k 32 (d1, d2) t _ S h
    clear H1
    replace P := Lib.hid P
    go_enter Try.func34, Try.ntmps34
    go_wp2_with fail
    refine Calls.mono P.out ?_
    rintro e w3 ⟨rfl, H4⟩
    have H5 : St W S0 w3 (cellA w.heap.size [.int .i64 0, .string ⟨#[]⟩] :: cellA o (ordC s k ⟨mode, hold, now, rel, came, ref, spl, giv, cc, l, (d1, d2) :: t⟩) :: siftA s cc l :: DockDg.dockA k 32 t :: r) := H4.arrN [1, 2, 3, 0] rfl
    obtain ⟨z4, c4, f4⟩ := H5.box 0 rfl
    obtain ⟨z5, c5, f5⟩ := H5.box 1 rfl
    unfold ordC at c5
    have n5 : ¬ w.heap.size = w3.heap.size := by omega
    have n6 : ¬ w3.heap.size = w.heap.size := by omega
    have n7 : ¬ o = w3.heap.size := by omega
    have n8 : ¬ w3.heap.size = o := by omega
    clear P H4
    replace H5 := Lib.hid H5
    go_wp2_with fail
    have H6 := (H5.out.set 1 rfl 9 (.int .i64 (giv + 1)) (by simp [ordC])).front 1 rfl
    have H7 := (((((H6).set 0 rfl 0 (.int .i64 d1) (by simp))).set 0 rfl 1 (.string d2) (by simp))).skip (.cells #[.int .i64 d1, .string d2] 45)
    refine bodyPost_ret (v := .tuple #[.agg #[.int .i64 d1, .string d2], .bool true]) (by simp [results, Try.results34, go_sem, c4, z4, n5, n2]; try rfl) rfl ⟨rfl, ?_⟩
    exact orderP_shut (H7.drop 0 rfl)
end Go.Proofs.Ytiaefmmcakagpaa.Ord

/- The walks of the package order's Set, and of an order that is none. -/
namespace Go.Proofs.Ytiaefmmcakagpaa.Ord
set_option linter.unusedSimpArgs false
set_option linter.unusedVariables false
open Go Go.RowKit Go.Shelf Go.Proofs.Ytiaefmmcakagpaa Go.Proofs.Ytiaefmmcakagpaa.Sift Go.Proofs.Ytiaefmmcakagpaa.Hold
open Go.Proofs.Ytiaefmmcakagpaa.DockWait (El enc val encs placed headV)
attribute [local irreducible] Calls

def setS (x : Or) (m h : Int) : Or := if checkF m h = 0 then { x with mode := m, hold := h } else x
set_option maxRecDepth 100000 in
set_option maxHeartbeats 1000000 in
theorem set_st {W w : World} {S0 : Nat → Prop} {r : List Asn} (o s k : Nat) (x : Or) (m h : Int) (H : St W S0 w (orderP o s k x :: r)) :
    Calls Try.prog 45 #[.pointer (some ⟨o, 0, none⟩), .agg #[.int .i64 m, .int .i64 h]] w (fun e w' => e = .returned (.int .i64 (checkF m h)) ∧ St W S0 w' (orderP o s k (setS x m h) :: r)) := by
  obtain ⟨z, c, f⟩ := (orderP_open H).box 0 rfl
  have H1 : St W S0 _ (cellA w.heap.size [.int .i64 m, .int .i64 h] :: cellA o (ordC s k x) :: siftA s x.c x.l :: DockDg.dockA k 32 x.rdy :: r) := (orderP_open H).alloc [.int .i64 m, .int .i64 h] 62
  have P := fun w => check_any m h w
  unfold setS
  clear H c f
  by_cases h0 : checkF m h = 0
  · rw [h0] at P
    rw [if_pos h0, h0]
    replace h0 := Lib.hid h0
    replace P := Lib.hid P; replace H1 := Lib.hid H1
    go_enter Try.func45, Try.ntmps45
    go_wp2_with fail
    refine Calls.mono (P.out _) ?_
    rintro e w3 ⟨rfl, hb3⟩
    have z3 := Below.size hb3; try simp only [World.size_alloc, World.size_setCell, World.size_drew] at z3
    have H2 := H1.out.thru hb3
    obtain ⟨z4, c4, f4⟩ := H2.box 0 rfl
    obtain ⟨z5, c5, f5⟩ := H2.box 1 rfl
    unfold ordC at c5
    have H3 := ((H2.set 1 rfl 2 (.int .i64 m) (by simp [ordC])).set 0 rfl 3 (.int .i64 h) (by simp [ordC]))
    have n1 := H2.ne_cells 0 1 rfl rfl (by decide)
    have n2 : ¬ o = w.heap.size := fun e => n1 e.symm
    clear P H1
    replace H2 := Lib.hid H2; replace H3 := Lib.hid H3
    go_wp2_with fail
    go_ret
    exact ⟨rfl, orderP_shut (H3.out.drop 1 rfl)⟩
  · rw [if_neg h0]
    generalize checkF m h = e at *
    have q : (e != 0) = true := by simpa using h0
    have q' : decide (e = 0) = false := decide_eq_false h0
    replace h0 := Lib.hid h0
    replace P := Lib.hid P; replace H1 := Lib.hid H1
    go_enter Try.func45, Try.ntmps45
    go_wp2_with fail
    refine Calls.mono (P.out _) ?_
    rintro e w3 ⟨rfl, hb3⟩
    have z3 := Below.size hb3; try simp only [World.size_alloc, World.size_setCell, World.size_drew] at z3
    have H2 := H1.out.thru hb3
    clear P H1
    replace H2 := Lib.hid H2
    go_wp2_with fail
    go_ret
    exact ⟨rfl, orderP_shut (H2.out.drop 0 rfl)⟩
theorem set_none (m h : Int) (w : World) : Calls Try.prog 45 #[.pointer none, .agg #[.int .i64 m, .int .i64 h]] w (Ret w (.int .i64 10)) := by
  go_enter Try.func45, Try.ntmps45
  go_wp2_with fail
  go_ret
  exact Ret.mk rfl (by repeat (first | with_reducible exact Below.refl _ _ | (with_reducible refine Below.al ?_) | (with_reducible refine Below.drew ?_) | (with_reducible refine Below.set ?_ (by first | (simp; done) | omega | (simp; omega))) | (with_reducible refine Below.thru ?_ (by assumption)) | (with_reducible refine Below.chg ?_ (by assumption) (by first | (simp; done) | omega | (simp; omega)))))
theorem take_none (d : Dg) (own : Int) (v : Value) (w : World) : Calls Try.prog 33 #[.pointer none, .agg #[.int .i64 d.1, .string d.2], .int .i64 own, v] w (Ret w (.int .i64 2)) := by
  go_enter Try.func33, Try.ntmps33
  go_wp2_with fail
  go_ret
  exact Ret.mk rfl (by repeat (first | with_reducible exact Below.refl _ _ | (with_reducible refine Below.al ?_) | (with_reducible refine Below.drew ?_) | (with_reducible refine Below.set ?_ (by first | (simp; done) | omega | (simp; omega))) | (with_reducible refine Below.thru ?_ (by assumption)) | (with_reducible refine Below.chg ?_ (by assumption) (by first | (simp; done) | omega | (simp; omega)))))
theorem tick_none (w : World) : Calls Try.prog 44 #[.pointer none] w (Ret w (.int .i64 0)) := by
  go_enter Try.func44, Try.ntmps44
  go_wp2_with fail
  go_ret
  exact Ret.mk rfl (by repeat (first | with_reducible exact Below.refl _ _ | (with_reducible refine Below.al ?_) | (with_reducible refine Below.drew ?_) | (with_reducible refine Below.set ?_ (by first | (simp; done) | omega | (simp; omega))) | (with_reducible refine Below.thru ?_ (by assumption)) | (with_reducible refine Below.chg ?_ (by assumption) (by first | (simp; done) | omega | (simp; omega)))))
theorem flush_none (w : World) : Calls Try.prog 43 #[.pointer none] w (Ret w (.int .i64 0)) := by
  go_enter Try.func43, Try.ntmps43
  go_wp2_with fail
  go_ret
  exact Ret.mk rfl (by repeat (first | with_reducible exact Below.refl _ _ | (with_reducible refine Below.al ?_) | (with_reducible refine Below.drew ?_) | (with_reducible refine Below.set ?_ (by first | (simp; done) | omega | (simp; omega))) | (with_reducible refine Below.thru ?_ (by assumption)) | (with_reducible refine Below.chg ?_ (by assumption) (by first | (simp; done) | omega | (simp; omega)))))
theorem waits_none (w : World) : Calls Try.prog 35 #[.pointer none] w (Ret w (.int .i64 0)) := by
  go_enter Try.func35, Try.ntmps35
  go_wp2_with fail
  go_ret
  exact Ret.mk rfl (by repeat (first | with_reducible exact Below.refl _ _ | (with_reducible refine Below.al ?_) | (with_reducible refine Below.drew ?_) | (with_reducible refine Below.set ?_ (by first | (simp; done) | omega | (simp; omega))) | (with_reducible refine Below.thru ?_ (by assumption)) | (with_reducible refine Below.chg ?_ (by assumption) (by first | (simp; done) | omega | (simp; omega)))))
theorem ready_none (w : World) : Calls Try.prog 40 #[.pointer none] w (Ret w (.int .i64 0)) := by
  go_enter Try.func40, Try.ntmps40
  go_wp2_with fail
  go_ret
  exact Ret.mk rfl (by repeat (first | with_reducible exact Below.refl _ _ | (with_reducible refine Below.al ?_) | (with_reducible refine Below.drew ?_) | (with_reducible refine Below.set ?_ (by first | (simp; done) | omega | (simp; omega))) | (with_reducible refine Below.thru ?_ (by assumption)) | (with_reducible refine Below.chg ?_ (by assumption) (by first | (simp; done) | omega | (simp; omega)))))
theorem now_none (w : World) : Calls Try.prog 42 #[.pointer none] w (Ret w (.int .i64 0)) := by
  go_enter Try.func42, Try.ntmps42
  go_wp2_with fail
  go_ret
  exact Ret.mk rfl (by repeat (first | with_reducible exact Below.refl _ _ | (with_reducible refine Below.al ?_) | (with_reducible refine Below.drew ?_) | (with_reducible refine Below.set ?_ (by first | (simp; done) | omega | (simp; omega))) | (with_reducible refine Below.thru ?_ (by assumption)) | (with_reducible refine Below.chg ?_ (by assumption) (by first | (simp; done) | omega | (simp; omega)))))
theorem recv_none (w : World) : Calls Try.prog 34 #[.pointer none] w (Ret w (.tuple #[.agg #[.int .i64 0, .string ⟨#[]⟩], .bool false])) := by
  go_enter Try.func34, Try.ntmps34
  go_wp2_with fail
  exact bodyPost_ret (v := .tuple #[.agg #[.int .i64 0, .string ⟨#[]⟩], .bool false]) (by simp [results, Try.results34, go_sem]; try rfl) rfl (Ret.mk rfl (by repeat (first | with_reducible exact Below.refl _ _ | (with_reducible refine Below.al ?_) | (with_reducible refine Below.drew ?_) | (with_reducible refine Below.set ?_ (by first | (simp; done) | omega | (simp; omega))) | (with_reducible refine Below.thru ?_ (by assumption)) | (with_reducible refine Below.chg ?_ (by assumption) (by first | (simp; done) | omega | (simp; omega))))))
theorem counts_none (w : World) : Calls Try.prog 39 #[.pointer none] w (Ret w (.agg #[.int .i64 0, .int .i64 0, .int .i64 0, .int .i64 0, .int .i64 0])) := by
  go_enter Try.func39, Try.ntmps39
  go_wp2_with fail
  exact bodyPost_ret (v := .agg #[.int .i64 0, .int .i64 0, .int .i64 0, .int .i64 0, .int .i64 0]) (by simp [results, Try.results39, go_sem]; try rfl) rfl (Ret.mk rfl (by repeat (first | with_reducible exact Below.refl _ _ | (with_reducible refine Below.al ?_) | (with_reducible refine Below.drew ?_) | (with_reducible refine Below.set ?_ (by first | (simp; done) | omega | (simp; omega))) | (with_reducible refine Below.thru ?_ (by assumption)) | (with_reducible refine Below.chg ?_ (by assumption) (by first | (simp; done) | omega | (simp; omega))))))
end Go.Proofs.Ytiaefmmcakagpaa.Ord

/- The walk of the package order's Take. -/
namespace Go.Proofs.Ytiaefmmcakagpaa.Ord
set_option linter.unusedSimpArgs false
set_option linter.unusedVariables false
open Go Go.RowKit Go.Shelf Go.Proofs.Ytiaefmmcakagpaa Go.Proofs.Ytiaefmmcakagpaa.Sift Go.Proofs.Ytiaefmmcakagpaa.Hold
open Go.Proofs.Ytiaefmmcakagpaa.DockWait (El enc val encs placed headV)
attribute [local irreducible] Calls

theorem put_len {x : Or} {n : Nat} {last : Int} (hg : Good x n last) (d : Dg) (f : Int) : (putP x d f).1.2.length ≤ 100 ∧ 0 ≤ (putP x d f).1.1 := by
  have hc := put_case d (x.now + f) hg.ok hg.len
  have e : putM x.c x.l d (x.now + f) = putP x d f := rfl
  rw [e] at hc
  have hl := lay_len d (x.now + f) x.l
  have := hg.len
  generalize putP x d f = R at *
  cases hc with
  | no _ hw he => rw [he]; exact ⟨by simp, by simp only; omega⟩
  | yes k _ hw hr _ _ =>
    refine ⟨?_, by rw [hw]; split <;> omega⟩
    rw [show R.1.2 = _ from hr.out, List.length_map, List.length_take]
    omega
set_option maxRecDepth 100000 in
set_option maxHeartbeats 2000000 in
theorem take_st {W w : World} {S0 : Nat → Prop} {r : List Asn} (o s k : Nat) (x : Or) (d : Dg) (own : Int) (l : List Int) (m : Nat) (hl : l.length = m) (hm : m ≤ maxLen) (a : Option Addr) (cap : Nat) {n : Nat} {last : Int} (hg : Good x n last) (hn : n ≤ 900)
    (hR : ∀ w', St W S0 w' r → Rd w' a (i64s l)) (H : St W S0 w (orderP o s k x :: r)) :
    Calls Try.prog 33 #[.pointer (some ⟨o, 0, none⟩), .agg #[.int .i64 d.1, .string d.2], .int .i64 own, .slice a m cap] w (fun e w' => e = .returned (.int .i64 (putP x d (forF x.mode x.hold own l)).1.1) ∧ St W S0 w' (orderP o s k (takeS x d (forF x.mode x.hold own l)) :: r)) := by
  obtain ⟨z, c, f⟩ := (orderP_open H).box 0 rfl
  have n1 : ¬ o = w.heap.size := by omega
  have n2 : ¬ w.heap.size = o := by omega
  obtain ⟨d1, d2⟩ := d
  have hgb := hg.bds
  have hn0 := hg.n0
  have hn1 := hg.n1
  have hfb := clamp60
  obtain ⟨fv, hfv⟩ : ∃ fv, fv = forF x.mode x.hold own l := ⟨_, rfl⟩
  have hfv0 : 0 ≤ fv ∧ fv ≤ 60 := by
    rw [hfv]; unfold forF
    split
    · omega
    · have := clamp60 x.hold
      have h3 : 0 ≤ gapF x.mode own l := by
        unfold gapF
        have := apart_bd l
        split
        · omega
        · split <;> omega
      omega
  have P1 := fun w' (h : St W S0 w' r) => for_any x.mode x.hold own l m hl hm a cap w' (hR w' h)
  rw [← hfv] at P1 ⊢
  have H1' := ((orderP_open H).set 0 rfl 6 (.int .i64 (x.came + 1)) (by simp [ordC])).alloc [.int .i64 d1, .string d2] 45
  simp only [World.size_setCell] at H1'
  have H1 : St W S0 _ (cellA o (ordC s k { x with came := x.came + 1 }) :: cellA w.heap.size [.int .i64 d1, .string d2] :: siftA s x.c x.l :: DockDg.dockA k 32 x.rdy :: r) :=
    H1'.arrN [1, 0] rfl
  clear H1'
  unfold ordC at c
  simp only at *
  have hlen := put_len hg (d1, d2) fv
  have hgt := hg.takeA (d1, d2) fv
  have HC : St W S0 _ [ordE o s k x.mode x.hold x.now, cellA w.heap.size [.int .i64 d1, .string d2]] := (ordE_of H1).drops 2
  have hcl0 := fun (s' : Cls W S0 [ordE o s k x.mode x.hold x.now, cellA w.heap.size [.int .i64 d1, .string d2]]) => (ordE_cell s'.st).1
  have hcl2 := fun (s' : Cls W S0 [ordE o s k x.mode x.hold x.now, cellA w.heap.size [.int .i64 d1, .string d2]]) => (ordE_cell s'.st).2.1
  have hcl3 := fun (s' : Cls W S0 [ordE o s k x.mode x.hold x.now, cellA w.heap.size [.int .i64 d1, .string d2]]) => (ordE_cell s'.st).2.2.1
  have hcl4 := fun (s' : Cls W S0 [ordE o s k x.mode x.hold x.now, cellA w.heap.size [.int .i64 d1, .string d2]]) => (ordE_cell s'.st).2.2.2
  have hcb := fun (s' : Cls W S0 [ordE o s k x.mode x.hold x.now, cellA w.heap.size [.int .i64 d1, .string d2]]) (i : Nat) => ((s'.st).box 1 rfl).cells i
  have P2 := fun w' (H' : St W S0 w' (cellA o (ordC s k { x with came := x.came + 1 }) :: cellA w.heap.size [.int .i64 d1, .string d2] :: siftA s x.c x.l :: DockDg.dockA k 32 x.rdy :: r)) =>
    ex_at 2 H' rfl fun S h => put_any s x.c x.l (d1, d2) (x.now + fv) hg.len hg.ok.c0 hg.ok.c1 hg.ok.pos _ S h
  obtain ⟨R, hRR⟩ : ∃ R, R = putP x (d1, d2) fv := ⟨_, rfl⟩
  unfold takeS takeA at *
  change ∀ w', _ → _ at P2
  rw [show putM x.c x.l (d1, d2) (x.now + fv) = R from hRR.symm] at P2
  rw [← hRR] at hlen hgt ⊢
  obtain ⟨⟨what, ds⟩, c', l'⟩ := R
  simp only at P2 hlen hgt ⊢
  clear H hRR hfv hfb hR
  replace P1 := Lib.hid P1; replace P2 := Lib.hid P2; replace HC := Lib.hid HC; replace H1 := Lib.hid H1; replace hgt := Lib.hid hgt
  go_enter Try.func33, Try.ntmps33
  go_wp2_with fail
  haveI := St.ne HC.out
  refine wp_region_madeC HC.out [0, 1, 2, 3, 4, 5, 6, 7, 8, 9, 10, 11, 12, 13, 14] [true, true, true, true, true, true, true, true, true, true, true, true, true, true, true, false, false, false, false, false, false, false, false] 8 #[true, true, true, true, true, true, true, true, true, true, true, true, true, true, true, false, false, false, false, false, false, false, false] (by kernel_rfl) rfl (by kernel_rfl) (by kernel_rfl) rfl (by kernel_rfl) (by kernel_rfl) (by intro c a a' w e h; obtain ⟨t, d⟩ := a; obtain ⟨t', d'⟩ := a'; obtain rfl : d = d' := e; exact h) ?_
  simp only [pickB]
  repeat (go_big_quiet_step (fail))
  refine wpQuiet_nil ?_
  refine held_one (i := 15) (by kernel_rfl) fun K hK => ?_
  simp only [List.drop_succ_cons, List.drop_zero, List.take_succ_cons, List.take_zero]
  go_wp2_with fail
  refine Calls.mono (P1.out _ (((((H1.out.drew).drop 0 rfl).drop 0 rfl).drop 0 rfl).drop 0 rfl)) ?_
  rintro e w3 ⟨rfl, hb3⟩
  have H3 := H1.out.drew.thru hb3
  have HC3 := (ordE_of H3).drops 2
  have P3 := P2.out w3 H3
  clear P1 P2 H1 H3
  replace HC3 := Lib.hid HC3; replace P3 := Lib.hid P3
  go_wp2_with fail
  refine hK _ _ HC3.out ?_
  clear hK K
  haveI := St.ne HC3.out
  refine calmC HC3.out [16] [false, false, false, false, false, false, false, false, false, false, false, false, false, false, false, false, true, false, false, false, false, false, false] 6 7 #[true, true, true, true, true, true, true, true, true, true, true, true, true, true, true, true, false, false, false, false, false, false, false] #[true, true, true, true, true, true, true, true, true, true, true, true, true, true, true, true, true, false, false, false, false, false, false] rfl (by kernel_rfl) (by kernel_rfl) rfl (by kernel_rfl) (by kernel_rfl) (by intro c a a' w e h; obtain ⟨t, d⟩ := a; obtain ⟨t', d'⟩ := a'; obtain rfl : d = d' := e; exact h) ?_
  simp only [pickB]
  repeat (go_big_quiet_step (fail))
  refine wpQuiet_nil ?_
  refine held_one (i := 17) (by kernel_rfl) fun K hK => ?_
  simp only [List.drop_succ_cons, List.drop_zero, List.take_succ_cons, List.take_zero]
  go_wp2_with fail
  refine Calls.mono P3.out ?_
  rintro e w4 ⟨v4, rfl, H4⟩
  have HC4 := (ordE_of (H4.arrN [2, 3, 0, 1] rfl)).drops 2
  obtain ⟨a4, c4, rfl, _⟩ := St.slice (by omega) 0 H4 rfl
  clear P3
  replace HC4 := Lib.hid HC4; replace H4 := Lib.hid H4
  go_wp2_with fail
  refine hK _ _ HC4.out ?_
  clear hK K
  haveI := St.ne HC4.out
  refine calmC HC4.out [18, 19, 20, 21, 22] [false, false, false, false, false, false, false, false, false, false, false, false, false, false, false, false, false, false, true, true, true, true, true] 0 5 #[true, true, true, true, true, true, true, true, true, true, true, true, true, true, true, true, true, true, false, false, false, false, false] #[true, true, true, true, true, true, true, true, true, true, true, true, true, true, true, true, true, true, true, true, true, true, true] rfl (by kernel_rfl) (by kernel_rfl) rfl (by kernel_rfl) (by kernel_rfl) (by intro c a a' w e h; obtain ⟨t, d⟩ := a; obtain ⟨t', d'⟩ := a'; obtain rfl : d = d' := e; exact h) ?_
  simp only [pickB]
  repeat (go_big_quiet_step (fail))
  refine wpQuiet_nil ?_
  refine held_done (by kernel_rfl) ?_
  have H5 := (H4.out.arrN [2, 1, 4, 0, 3] rfl)
  obtain ⟨z5, c5, f5⟩ := H5.box 0 rfl
  unfold ordC at c5
  simp only at c5
  clear H4 HC HC3 HC4
  by_cases hw : 2 ≤ what
  · have t0 : decide (what = 0) = false := decide_eq_false (by omega)
    have t1 : (what == 0) = false := by simp; omega
    have t2 : decide (what = 1) = false := decide_eq_false (by omega)
    have t3 : (what == 1) = false := by simp; omega
    have t4 : (what != 0) = true := by simp; omega
    have t5 : (what != 1) = true := by simp; omega
    have H6 := ((H5.set 0 rfl 7 (.int .i64 (x.ref + 1)) (by simp [ordC])).drop 4 rfl)
    have hr0 := hg.r0
    replace hw := Lib.hid hw
    replace H5 := Lib.hid H5
    go_wp2_with fail
    have hbb : 0 ≤ x.spl ∧ x.spl ≤ 100000 ∧ 0 ≤ x.rel ∧ x.rel ≤ 100000 ∧ x.rdy.length ≤ 32 := ⟨hg.s0, by omega, by omega, by omega, hg.rlen⟩
    have PR := release_st (r := r) o { x with came := x.came + 1, ref := x.ref + 1, c := c', l := l' } (.slice a4 ds.length c4) ds hlen.1 hbb s k (orderP_shut H6)
    replace hgt := hgt.out
    simp only [if_pos hw.out] at hgt
    unfold addS at hgt
    simp only at hgt
    obtain ⟨y, hy⟩ : ∃ y, y = relM { x with came := x.came + 1, ref := x.ref + 1, c := c', l := l' } ds := ⟨_, rfl⟩
    have hyn : y.now = x.now := by rw [hy]; rfl
    rw [← hy] at PR hgt
    clear hbb
    replace hy := Lib.hid hy
    replace PR := Lib.hid PR; replace hgt := Lib.hid hgt; replace hyn := Lib.hid hyn
    go_wp2_with fail
    refine Calls.mono PR.out ?_
    rintro e w7 ⟨rfl, H7⟩
    have H8 := orderP_open H7
    have HC8 : St W S0 w7 [ordE o s k y.mode y.hold x.now] := by rw [← hyn.out]; exact (ordE_of H8).drops 1
    have hcy0 := fun (s' : Cls W S0 [ordE o s k y.mode y.hold x.now]) => (ordE_cell s'.st).1
    have hcy4 := fun (s' : Cls W S0 [ordE o s k y.mode y.hold x.now]) => (ordE_cell s'.st).2.2.2
    have P9 := due_at hgt.out x.now H8.drew
    clear PR H7 H8 hcl0 hcl2 hcl3 hcl4 hcb
    replace HC8 := Lib.hid HC8; replace P9 := Lib.hid P9
    go_wp2_with fail
    haveI := St.ne HC8.out
    refine wp_region_madeC HC8.out [0, 1, 2, 3, 4, 5, 6, 7, 8] [true, true, true, true, true, true, true, true, true, false, false] 2 #[true, true, true, true, true, true, true, true, true, false, false] (by kernel_rfl) rfl (by kernel_rfl) (by kernel_rfl) rfl (by kernel_rfl) (by kernel_rfl) (by intro c a a' w e h; obtain ⟨t, d⟩ := a; obtain ⟨t', d'⟩ := a'; obtain rfl : d = d' := e; exact h) ?_
    simp only [pickB]
    repeat (go_big_quiet_step (fail))
    refine wpQuiet_nil ?_
    refine held_one (i := 9) (by kernel_rfl) fun K hK => ?_
    simp only [List.drop_succ_cons, List.drop_zero, List.take_succ_cons, List.take_zero]
    go_wp2_with fail
    refine Calls.mono P9.out ?_
    rintro e w8 ⟨v8, rfl, H8⟩
    have HC9 : St W S0 w8 [ordE o s k y.mode y.hold x.now] := by rw [← hyn.out]; exact (ordE_of (orderP_open H8)).drops 1
    have P10 := release_due hgt.out (by omega) x.now v8 H8
    clear P9 H8
    replace HC9 := Lib.hid HC9; replace P10 := Lib.hid P10
    go_wp2_with fail
    refine hK _ _ HC9.out ?_
    clear hK K
    refine held_one (i := 10) (by kernel_rfl) fun K hK => ?_
    simp only [List.drop_succ_cons, List.drop_zero, List.take_succ_cons, List.take_zero]
    go_wp2_with fail
    refine Calls.mono P10.out ?_
    rintro e w9 ⟨rfl, H9⟩
    have HC10 : St W S0 w9 [ordE o s k y.mode y.hold x.now] := by rw [← hyn.out]; exact (ordE_of (orderP_open H9)).drops 1
    clear P10
    replace HC10 := Lib.hid HC10; replace H9 := Lib.hid H9
    go_wp2_with fail
    refine hK _ _ HC10.out ?_
    clear hK K
    refine held_done (by kernel_rfl) ?_
    go_wp2_with fail
    go_ret
    refine ⟨rfl, ?_⟩
    have H10 := H9.out
    rw [hy.out] at H10
    exact H10
  · have hr0 := hg.r0
    have H6 := (H5.drop 4 rfl)
    rcases (show what = 0 ∨ what = 1 by omega) with rfl | rfl
    · clear hw
      replace H5 := Lib.hid H5
      go_wp2_with fail
      have hbb : 0 ≤ x.spl ∧ x.spl ≤ 100000 ∧ 0 ≤ x.rel ∧ x.rel ≤ 100000 ∧ x.rdy.length ≤ 32 := ⟨hg.s0, by omega, by omega, by omega, hg.rlen⟩
      have PR := release_st (r := r) o { x with came := x.came + 1, ref := x.ref, c := c', l := l' } (.slice a4 ds.length c4) ds hlen.1 hbb s k (orderP_shut H6)
      replace hgt := hgt.out
      simp only [show ¬ (2 : Int) ≤ 0 by omega, if_false] at hgt
      unfold addS at hgt
      simp only at hgt
      obtain ⟨y, hy⟩ : ∃ y, y = relM { x with came := x.came + 1, ref := x.ref, c := c', l := l' } ds := ⟨_, rfl⟩
      have hyn : y.now = x.now := by rw [hy]; rfl
      rw [← hy] at PR hgt
      clear hbb
      replace hy := Lib.hid hy
      replace PR := Lib.hid PR; replace hgt := Lib.hid hgt; replace hyn := Lib.hid hyn
      go_wp2_with fail
      refine Calls.mono PR.out ?_
      rintro e w7 ⟨rfl, H7⟩
      have H8 := orderP_open H7
      have HC8 : St W S0 w7 [ordE o s k y.mode y.hold x.now] := by rw [← hyn.out]; exact (ordE_of H8).drops 1
      have hcy0 := fun (s' : Cls W S0 [ordE o s k y.mode y.hold x.now]) => (ordE_cell s'.st).1
      have hcy4 := fun (s' : Cls W S0 [ordE o s k y.mode y.hold x.now]) => (ordE_cell s'.st).2.2.2
      have P9 := due_at hgt.out x.now H8.drew
      clear PR H7 H8 hcl0 hcl2 hcl3 hcl4 hcb
      replace HC8 := Lib.hid HC8; replace P9 := Lib.hid P9
      go_wp2_with fail
      haveI := St.ne HC8.out
      refine wp_region_madeC HC8.out [0, 1, 2, 3, 4, 5, 6, 7, 8] [true, true, true, true, true, true, true, true, true, false, false] 2 #[true, true, true, true, true, true, true, true, true, false, false] (by kernel_rfl) rfl (by kernel_rfl) (by kernel_rfl) rfl (by kernel_rfl) (by kernel_rfl) (by intro c a a' w e h; obtain ⟨t, d⟩ := a; obtain ⟨t', d'⟩ := a'; obtain rfl : d = d' := e; exact h) ?_
      simp only [pickB]
      repeat (go_big_quiet_step (fail))
      refine wpQuiet_nil ?_
      refine held_one (i := 9) (by kernel_rfl) fun K hK => ?_
      simp only [List.drop_succ_cons, List.drop_zero, List.take_succ_cons, List.take_zero]
      go_wp2_with fail
      refine Calls.mono P9.out ?_
      rintro e w8 ⟨v8, rfl, H8⟩
      have HC9 : St W S0 w8 [ordE o s k y.mode y.hold x.now] := by rw [← hyn.out]; exact (ordE_of (orderP_open H8)).drops 1
      have P10 := release_due hgt.out (by omega) x.now v8 H8
      clear P9 H8
      replace HC9 := Lib.hid HC9; replace P10 := Lib.hid P10
      go_wp2_with fail
      refine hK _ _ HC9.out ?_
      clear hK K
      refine held_one (i := 10) (by kernel_rfl) fun K hK => ?_
      simp only [List.drop_succ_cons, List.drop_zero, List.take_succ_cons, List.take_zero]
      go_wp2_with fail
      refine Calls.mono P10.out ?_
      rintro e w9 ⟨rfl, H9⟩
      have HC10 : St W S0 w9 [ordE o s k y.mode y.hold x.now] := by rw [← hyn.out]; exact (ordE_of (orderP_open H9)).drops 1
      clear P10
      replace HC10 := Lib.hid HC10; replace H9 := Lib.hid H9
      go_wp2_with fail
      refine hK _ _ HC10.out ?_
      clear hK K
      refine held_done (by kernel_rfl) ?_
      go_wp2_with fail
      go_ret
      refine ⟨rfl, ?_⟩
      have H10 := H9.out
      rw [hy.out] at H10
      exact H10
    · clear hw
      replace H5 := Lib.hid H5
      go_wp2_with fail
      have hbb : 0 ≤ x.spl ∧ x.spl ≤ 100000 ∧ 0 ≤ x.rel ∧ x.rel ≤ 100000 ∧ x.rdy.length ≤ 32 := ⟨hg.s0, by omega, by omega, by omega, hg.rlen⟩
      have PR := release_st (r := r) o { x with came := x.came + 1, ref := x.ref, c := c', l := l' } (.slice a4 ds.length c4) ds hlen.1 hbb s k (orderP_shut H6)
      replace hgt := hgt.out
      simp only [show ¬ (2 : Int) ≤ 1 by omega, if_false] at hgt
      unfold addS at hgt
      simp only at hgt
      obtain ⟨y, hy⟩ : ∃ y, y = relM { x with came := x.came + 1, ref := x.ref, c := c', l := l' } ds := ⟨_, rfl⟩
      have hyn : y.now = x.now := by rw [hy]; rfl
      rw [← hy] at PR hgt
      clear hbb
      replace hy := Lib.hid hy
      replace PR := Lib.hid PR; replace hgt := Lib.hid hgt; replace hyn := Lib.hid hyn
      go_wp2_with fail
      refine Calls.mono PR.out ?_
      rintro e w7 ⟨rfl, H7⟩
      have H8 := orderP_open H7
      have HC8 : St W S0 w7 [ordE o s k y.mode y.hold x.now] := by rw [← hyn.out]; exact (ordE_of H8).drops 1
      have hcy0 := fun (s' : Cls W S0 [ordE o s k y.mode y.hold x.now]) => (ordE_cell s'.st).1
      have hcy4 := fun (s' : Cls W S0 [ordE o s k y.mode y.hold x.now]) => (ordE_cell s'.st).2.2.2
      have P9 := due_at hgt.out x.now H8.drew
      clear PR H7 H8 hcl0 hcl2 hcl3 hcl4 hcb
      replace HC8 := Lib.hid HC8; replace P9 := Lib.hid P9
      go_wp2_with fail
      haveI := St.ne HC8.out
      refine wp_region_madeC HC8.out [0, 1, 2, 3, 4, 5, 6, 7, 8] [true, true, true, true, true, true, true, true, true, false, false] 2 #[true, true, true, true, true, true, true, true, true, false, false] (by kernel_rfl) rfl (by kernel_rfl) (by kernel_rfl) rfl (by kernel_rfl) (by kernel_rfl) (by intro c a a' w e h; obtain ⟨t, d⟩ := a; obtain ⟨t', d'⟩ := a'; obtain rfl : d = d' := e; exact h) ?_
      simp only [pickB]
      repeat (go_big_quiet_step (fail))
      refine wpQuiet_nil ?_
      refine held_one (i := 9) (by kernel_rfl) fun K hK => ?_
      simp only [List.drop_succ_cons, List.drop_zero, List.take_succ_cons, List.take_zero]
      go_wp2_with fail
      refine Calls.mono P9.out ?_
      rintro e w8 ⟨v8, rfl, H8⟩
      have HC9 : St W S0 w8 [ordE o s k y.mode y.hold x.now] := by rw [← hyn.out]; exact (ordE_of (orderP_open H8)).drops 1
      have P10 := release_due hgt.out (by omega) x.now v8 H8
      clear P9 H8
      replace HC9 := Lib.hid HC9; replace P10 := Lib.hid P10
      go_wp2_with fail
      refine hK _ _ HC9.out ?_
      clear hK K
      refine held_one (i := 10) (by kernel_rfl) fun K hK => ?_
      simp only [List.drop_succ_cons, List.drop_zero, List.take_succ_cons, List.take_zero]
      go_wp2_with fail
      refine Calls.mono P10.out ?_
      rintro e w9 ⟨rfl, H9⟩
      have HC10 : St W S0 w9 [ordE o s k y.mode y.hold x.now] := by rw [← hyn.out]; exact (ordE_of (orderP_open H9)).drops 1
      clear P10
      replace HC10 := Lib.hid HC10; replace H9 := Lib.hid H9
      go_wp2_with fail
      refine hK _ _ HC10.out ?_
      clear hK K
      refine held_done (by kernel_rfl) ?_
      go_wp2_with fail
      go_ret
      refine ⟨rfl, ?_⟩
      have H10 := H9.out
      rw [hy.out] at H10
      exact H10
end Go.Proofs.Ytiaefmmcakagpaa.Ord
