/- The walks of the package channel that only read: what is part of what. -/
import Derived.Test.YthodfihdmhkgeaaChan
namespace Go.Proofs.Ythodfihdmhkgeaa.Chan
set_option linter.unusedSimpArgs false
set_option linter.unusedVariables false
open Go Go.RowKit Go.Proofs.Ythodfihdmhkgeaa
attribute [local irreducible] Calls

def hasB (l : List Dg) (d : Dg) : Bool := l.any (dgEq d)
def partB (sent got : List Dg) : Bool := got.all (hasB sent)

set_option maxHeartbeats 400000 in
theorem index_any (l : List Dg) (d : Dg) (n : Nat) (hl : l.length = n) (hn : n ≤ maxLen) (a : Option Addr) (cap : Nat) (w : World) (h : Rd w a (dgs l)) :
    Calls Try.prog 86 #[.slice a n cap, .agg #[.int .i64 d.1, .string d.2]] w (Ret w (.int .i64 (idxF (dgEq d) l))) := by
  unfold maxLen at hn
  have H := Lib.hid h
  have HL := Lib.hid hl
  clear h hl
  go_enter Try.func86, Try.ntmps86
  go_wp2_with fail
  go_loopg [5, 8] n (fun g _ i wr => ∃ k : Nat, k ≤ n ∧ g = n - k ∧ i = .int .i64 k ∧ Below w.heap.size w wr ∧ Box wr w.heap.size [.int .i64 d.1, .string d.2] ∧ Hid (∀ i (hi : i < l.length), i < k → dgEq d l[i] = false))
  case atStart => exact ⟨0, by omega, by omega, rfl, (by repeat (first | with_reducible exact Below.refl _ _ | (with_reducible refine Below.al ?_) | (with_reducible refine Below.drew ?_) | (with_reducible refine Below.set ?_ (by first | (simp; done) | omega | (simp; omega))) | (with_reducible refine Below.thru ?_ (by assumption)) | (with_reducible refine Below.chg ?_ (by assumption) (by first | (simp; done) | omega | (simp; omega))))), (by (try rw [show ((0 : Nat) : Int) = 0 from rfl]); repeat (first | fail | (with_reducible refine Box.below ?_ (by assumption)) | (with_reducible refine Box.drew ?_) | (with_reducible refine Box.new_at (by first | rfl | (simp; done) | omega)) | (with_reducible refine Box.al ?_) | (with_reducible apply Box.set0) | (with_reducible apply Box.set1) | (with_reducible apply Box.set2) | (with_reducible apply Box.set3) | (with_reducible apply Box.set4) | (with_reducible apply Box.set5) | (with_reducible apply Box.set6) | (with_reducible apply Box.set7) | (with_reducible apply Box.set8) | (with_reducible refine Box.oth ?_ (by first | (simp; done) | omega | (simp; omega))) | (with_reducible refine Box.chg ?_ (by assumption) (by first | (simp; done) | omega | (simp; omega))))), fun i _ h => by omega⟩
  case round =>
    obtain ⟨k, hk, hg, rfl, hbw, hB, hno⟩ := hrel
    by_cases hlt : k < n
    · have hkl : k < l.length := by have := HL.out; omega
      obtain ⟨b, off, rfl, hb, hc⟩ := dgs_at (H.out.below hbw) HL.out (by omega)
      obtain ⟨e0, e1⟩ := hc k hkl
      clear hc
      have HB := Lib.hid hB
      obtain ⟨zB, cB, fB⟩ := hB
      cases hq : dgEq d l[k]
      · have hno' : Hid (∀ i (hi : i < l.length), i < k + 1 → dgEq d l[i] = false) := fun i hi h => by
          by_cases e : i = k
          · subst e; exact hq
          · exact hno.out i hi (by omega)
        unfold dgEq at hq
        go_wp2_with fail
        refine wp_region_near (by kernel_rfl) (by kernel_rfl) ?_
        intro hs
        repeat (go_big_quiet_step (fail))
        refine wpQuiet_nil ?_
        clear hs
        intro w2 hb2
        go_wp2_with fail
        go_roundg (n - (k + 1))
        case measure => omega
        case rel => exact ⟨k + 1, by omega, rfl, by go_num, (by repeat (first | with_reducible exact Below.refl _ _ | (with_reducible refine Below.al ?_) | (with_reducible refine Below.drew ?_) | (with_reducible refine Below.set ?_ (by first | (simp; done) | omega | (simp; omega))) | (with_reducible refine Below.thru ?_ (by assumption)) | (with_reducible refine Below.chg ?_ (by assumption) (by first | (simp; done) | omega | (simp; omega))))), (by (try rw [show ((0 : Nat) : Int) = 0 from rfl]); repeat (first | (with_reducible exact Hid.out HB) | (with_reducible refine Box.below ?_ (by assumption)) | (with_reducible refine Box.drew ?_) | (with_reducible refine Box.new_at (by first | rfl | (simp; done) | omega)) | (with_reducible refine Box.al ?_) | (with_reducible apply Box.set0) | (with_reducible apply Box.set1) | (with_reducible apply Box.set2) | (with_reducible apply Box.set3) | (with_reducible apply Box.set4) | (with_reducible apply Box.set5) | (with_reducible apply Box.set6) | (with_reducible apply Box.set7) | (with_reducible apply Box.set8) | (with_reducible refine Box.oth ?_ (by first | (simp; done) | omega | (simp; omega))) | (with_reducible refine Box.chg ?_ (by assumption) (by first | (simp; done) | omega | (simp; omega))))), hno'⟩
      · have hf := idx_some (p := dgEq d) hkl hq hno.out
        unfold dgEq at hq
        replace hf := Lib.hid hf
        go_wp2_with fail
        refine wp_region_near (by kernel_rfl) (by kernel_rfl) ?_
        intro hs
        repeat (go_big_quiet_step (fail))
        refine wpQuiet_nil ?_
        clear hs
        intro w2 hb2
        go_wp2_with fail
        go_ret
        exact Ret.mk (congrArg (Value.int .i64) hf.out.symm) (by repeat (first | with_reducible exact Below.refl _ _ | (with_reducible refine Below.al ?_) | (with_reducible refine Below.drew ?_) | (with_reducible refine Below.set ?_ (by first | (simp; done) | omega | (simp; omega))) | (with_reducible refine Below.thru ?_ (by assumption)) | (with_reducible refine Below.chg ?_ (by assumption) (by first | (simp; done) | omega | (simp; omega)))))
    · have hf : idxF (dgEq d) l = -1 := idx_none fun i hi => hno.out i hi (by have := HL.out; omega)
      replace hf := Lib.hid hf
      go_wp2_with fail
      go_ret
      exact Ret.mk (congrArg (Value.int .i64) hf.out.symm) (by repeat (first | with_reducible exact Below.refl _ _ | (with_reducible refine Below.al ?_) | (with_reducible refine Below.drew ?_) | (with_reducible refine Below.set ?_ (by first | (simp; done) | omega | (simp; omega))) | (with_reducible refine Below.thru ?_ (by assumption)) | (with_reducible refine Below.chg ?_ (by assumption) (by first | (simp; done) | omega | (simp; omega)))))

theorem contains_any (l : List Dg) (d : Dg) (n : Nat) (hl : l.length = n) (hn : n ≤ maxLen) (a : Option Addr) (cap : Nat) (w : World) (h : Rd w a (dgs l)) :
    Calls Try.prog 65 #[.slice a n cap, .agg #[.int .i64 d.1, .string d.2]] w (Ret w (.bool (hasB l d))) := by
  have H := Lib.hid h
  have HL := Lib.hid hl
  clear h hl
  have hi := idx_ge (dgEq d) l
  replace hi := Lib.hid hi
  go_enter Try.func65, Try.ntmps65
  go_wp2_with fail
  have hR : Rd (w.alloc (.cells #[.int .i64 d.1, .string d.2] 32)) a (dgs l) := H.out.below (by repeat (first | with_reducible exact Below.refl _ _ | (with_reducible refine Below.al ?_) | (with_reducible refine Below.drew ?_) | (with_reducible refine Below.set ?_ (by first | (simp; done) | omega | (simp; omega))) | (with_reducible refine Below.thru ?_ (by assumption)) | (with_reducible refine Below.chg ?_ (by assumption) (by first | (simp; done) | omega | (simp; omega)))))
  refine Calls.mono (index_any l d n HL.out hn a cap _ hR) ?_
  rintro e w1 ⟨rfl, hb1⟩
  have z1 := Below.size hb1; try simp only [World.size_alloc, World.size_setCell, World.size_drew] at z1
  go_wp2_with fail
  go_ret
  exact Ret.mk (congrArg Value.bool hi.out) (by repeat (first | with_reducible exact Below.refl _ _ | (with_reducible refine Below.al ?_) | (with_reducible refine Below.drew ?_) | (with_reducible refine Below.set ?_ (by first | (simp; done) | omega | (simp; omega))) | (with_reducible refine Below.thru ?_ (by assumption)) | (with_reducible refine Below.chg ?_ (by assumption) (by first | (simp; done) | omega | (simp; omega)))))

set_option maxHeartbeats 400000 in
theorem in_any (l : List Dg) (d : Dg) (n : Nat) (hl : l.length = n) (hn : n ≤ maxLen) (a : Option Addr) (cap : Nat) (w : World) (h : Rd w a (dgs l)) :
    Calls Try.prog 66 #[.slice a n cap, .agg #[.int .i64 d.1, .string d.2]] w (Ret w (.bool (hasB l d))) := by
  unfold maxLen at hn
  have H := Lib.hid h
  have HL := Lib.hid hl
  clear h hl
  go_enter Try.func66, Try.ntmps66
  go_wp2_with fail
  go_loopg [5] n (fun g i wr => ∃ k : Nat, k ≤ n ∧ g = n - k ∧ i = .int .i64 k ∧ Below w.heap.size w wr ∧ Box wr w.heap.size [.int .i64 d.1, .string d.2] ∧ Hid (∀ i (hi : i < l.length), i < k → dgEq d l[i] = false))
  case atStart => exact ⟨0, by omega, by omega, rfl, (by repeat (first | with_reducible exact Below.refl _ _ | (with_reducible refine Below.al ?_) | (with_reducible refine Below.drew ?_) | (with_reducible refine Below.set ?_ (by first | (simp; done) | omega | (simp; omega))) | (with_reducible refine Below.thru ?_ (by assumption)) | (with_reducible refine Below.chg ?_ (by assumption) (by first | (simp; done) | omega | (simp; omega))))), (by (try rw [show ((0 : Nat) : Int) = 0 from rfl]); repeat (first | fail | (with_reducible refine Box.below ?_ (by assumption)) | (with_reducible refine Box.drew ?_) | (with_reducible refine Box.new_at (by first | rfl | (simp; done) | omega)) | (with_reducible refine Box.al ?_) | (with_reducible apply Box.set0) | (with_reducible apply Box.set1) | (with_reducible apply Box.set2) | (with_reducible apply Box.set3) | (with_reducible apply Box.set4) | (with_reducible apply Box.set5) | (with_reducible apply Box.set6) | (with_reducible apply Box.set7) | (with_reducible apply Box.set8) | (with_reducible refine Box.oth ?_ (by first | (simp; done) | omega | (simp; omega))) | (with_reducible refine Box.chg ?_ (by assumption) (by first | (simp; done) | omega | (simp; omega))))), fun i _ h => by omega⟩
  case round =>
    obtain ⟨k, hk, hg, rfl, hbw, hB, hno⟩ := hrel
    by_cases hlt : k < n
    · have hkl : k < l.length := by have := HL.out; omega
      obtain ⟨b, off, rfl, hb, hc⟩ := dgs_at (H.out.below hbw) HL.out (by omega)
      obtain ⟨e0, e1⟩ := hc k hkl
      clear hc
      have HB := Lib.hid hB
      obtain ⟨zB, cB, fB⟩ := hB
      cases hq : dgEq d l[k]
      · have hno' : Hid (∀ i (hi : i < l.length), i < k + 1 → dgEq d l[i] = false) := fun i hi h => by
          by_cases e : i = k
          · subst e; exact hq
          · exact hno.out i hi (by omega)
        rw [dgEq_comm] at hq
        unfold dgEq at hq
        go_wp2_with fail
        refine wp_region_near (by kernel_rfl) (by kernel_rfl) ?_
        intro hs
        repeat (go_big_quiet_step (fail))
        refine wpQuiet_nil ?_
        clear hs
        intro w2 hb2
        go_wp2_with fail
        go_roundg (n - (k + 1))
        case measure => omega
        case rel => exact ⟨k + 1, by omega, rfl, by go_num, (by repeat (first | with_reducible exact Below.refl _ _ | (with_reducible refine Below.al ?_) | (with_reducible refine Below.drew ?_) | (with_reducible refine Below.set ?_ (by first | (simp; done) | omega | (simp; omega))) | (with_reducible refine Below.thru ?_ (by assumption)) | (with_reducible refine Below.chg ?_ (by assumption) (by first | (simp; done) | omega | (simp; omega))))), (by (try rw [show ((0 : Nat) : Int) = 0 from rfl]); repeat (first | (with_reducible exact Hid.out HB) | (with_reducible refine Box.below ?_ (by assumption)) | (with_reducible refine Box.drew ?_) | (with_reducible refine Box.new_at (by first | rfl | (simp; done) | omega)) | (with_reducible refine Box.al ?_) | (with_reducible apply Box.set0) | (with_reducible apply Box.set1) | (with_reducible apply Box.set2) | (with_reducible apply Box.set3) | (with_reducible apply Box.set4) | (with_reducible apply Box.set5) | (with_reducible apply Box.set6) | (with_reducible apply Box.set7) | (with_reducible apply Box.set8) | (with_reducible refine Box.oth ?_ (by first | (simp; done) | omega | (simp; omega))) | (with_reducible refine Box.chg ?_ (by assumption) (by first | (simp; done) | omega | (simp; omega))))), hno'⟩
      · have hf : hasB l d = true := List.any_eq_true.2 ⟨l[k], List.getElem_mem hkl, hq⟩
        rw [dgEq_comm] at hq
        unfold dgEq at hq
        replace hf := Lib.hid hf
        go_wp2_with fail
        refine wp_region_near (by kernel_rfl) (by kernel_rfl) ?_
        intro hs
        repeat (go_big_quiet_step (fail))
        refine wpQuiet_nil ?_
        clear hs
        intro w2 hb2
        go_wp2_with fail
        go_ret
        exact Ret.mk (congrArg Value.bool hf.out.symm) (by repeat (first | with_reducible exact Below.refl _ _ | (with_reducible refine Below.al ?_) | (with_reducible refine Below.drew ?_) | (with_reducible refine Below.set ?_ (by first | (simp; done) | omega | (simp; omega))) | (with_reducible refine Below.thru ?_ (by assumption)) | (with_reducible refine Below.chg ?_ (by assumption) (by first | (simp; done) | omega | (simp; omega)))))
    · have hf : hasB l d = false := any_none fun i hi => hno.out i hi (by have := HL.out; omega)
      replace hf := Lib.hid hf
      go_wp2_with fail
      go_ret
      exact Ret.mk (congrArg Value.bool hf.out.symm) (by repeat (first | with_reducible exact Below.refl _ _ | (with_reducible refine Below.al ?_) | (with_reducible refine Below.drew ?_) | (with_reducible refine Below.set ?_ (by first | (simp; done) | omega | (simp; omega))) | (with_reducible refine Below.thru ?_ (by assumption)) | (with_reducible refine Below.chg ?_ (by assumption) (by first | (simp; done) | omega | (simp; omega)))))

set_option maxHeartbeats 400000 in
theorem part_any (sent got : List Dg) (n m : Nat) (hl : sent.length = n) (hn : n ≤ maxLen) (gl : got.length = m) (hm : m ≤ maxLen) (a : Option Addr) (cap : Nat) (a' : Option Addr) (cap' : Nat) (w : World) (h : Rd w a (dgs sent)) (g : Rd w a' (dgs got)) :
    Calls Try.prog 19 #[.slice a n cap, .slice a' m cap'] w (Ret w (.bool (partB sent got))) := by
  unfold maxLen at hn hm
  have H := Lib.hid h
  have HL := Lib.hid hl
  have G := Lib.hid g
  have GL := Lib.hid gl
  clear h hl g gl
  go_enter Try.func19, Try.ntmps19
  go_wp2_with fail
  go_loopg [9, 6] m (fun g i _ wr => ∃ k : Nat, k ≤ m ∧ g = m - k ∧ i = .int .i64 k ∧ Below w.heap.size w wr ∧ Hid (∀ i (hi : i < got.length), i < k → hasB sent got[i] = true))
  case atStart => exact ⟨0, by omega, by omega, rfl, Below.refl _ _, fun i _ h => by omega⟩
  case round =>
    obtain ⟨k, hk, hg, rfl, hbw, hall⟩ := hrel
    by_cases hlt : k < m
    · have hkl : k < got.length := by have := GL.out; omega
      obtain ⟨b, off, rfl, hb, hc⟩ := dgs_at (G.out.below hbw) GL.out (by omega)
      obtain ⟨e0, e1⟩ := hc k hkl
      have hn' : n ≤ maxLen := by unfold maxLen; omega
      clear hc
      go_wp2_with fail
      have hR : Rd (wr.alloc (.cells #[.int .i64 got[k].1, .string got[k].2] 32)) a (dgs sent) := (H.out.below hbw).below (by repeat (first | with_reducible exact Below.refl _ _ | (with_reducible refine Below.al ?_) | (with_reducible refine Below.drew ?_) | (with_reducible refine Below.set ?_ (by first | (simp; done) | omega | (simp; omega))) | (with_reducible refine Below.thru ?_ (by assumption)) | (with_reducible refine Below.chg ?_ (by assumption) (by first | (simp; done) | omega | (simp; omega)))))
      refine Calls.mono (contains_any sent got[k] n HL.out hn' a cap _ hR) ?_
      rintro e w1 ⟨rfl, hb1⟩
      have z1 := Below.size hb1; try simp only [World.size_alloc, World.size_setCell, World.size_drew] at z1
      cases hq : hasB sent got[k]
      · have hf : partB sent got = false := List.all_eq_false.2 ⟨got[k], List.getElem_mem hkl, by simp [hq]⟩
        replace hf := Lib.hid hf
        go_wp2_with fail
        go_ret
        exact Ret.mk (congrArg Value.bool hf.out.symm) (by repeat (first | with_reducible exact Below.refl _ _ | (with_reducible refine Below.al ?_) | (with_reducible refine Below.drew ?_) | (with_reducible refine Below.set ?_ (by first | (simp; done) | omega | (simp; omega))) | (with_reducible refine Below.thru ?_ (by assumption)) | (with_reducible refine Below.chg ?_ (by assumption) (by first | (simp; done) | omega | (simp; omega)))))
      · have hall' : Hid (∀ i (hi : i < got.length), i < k + 1 → hasB sent got[i] = true) := fun i hi h => by
          by_cases e : i = k
          · subst e; exact hq
          · exact hall.out i hi (by omega)
        go_wp2_with fail
        go_roundg (m - (k + 1))
        case measure => omega
        case rel => exact ⟨k + 1, by omega, rfl, by go_num, (by repeat (first | with_reducible exact Below.refl _ _ | (with_reducible refine Below.al ?_) | (with_reducible refine Below.drew ?_) | (with_reducible refine Below.set ?_ (by first | (simp; done) | omega | (simp; omega))) | (with_reducible refine Below.thru ?_ (by assumption)) | (with_reducible refine Below.chg ?_ (by assumption) (by first | (simp; done) | omega | (simp; omega))))), hall'⟩
    · have hf : partB sent got = true := all_all fun i hi => hall.out i hi (by have := GL.out; omega)
      replace hf := Lib.hid hf
      go_wp2_with fail
      go_ret
      exact Ret.mk (congrArg Value.bool hf.out.symm) (by repeat (first | with_reducible exact Below.refl _ _ | (with_reducible refine Below.al ?_) | (with_reducible refine Below.drew ?_) | (with_reducible refine Below.set ?_ (by first | (simp; done) | omega | (simp; omega))) | (with_reducible refine Below.thru ?_ (by assumption)) | (with_reducible refine Below.chg ?_ (by assumption) (by first | (simp; done) | omega | (simp; omega)))))
set_option maxHeartbeats 400000 in
theorem rpart_any (sent got : List Dg) (n m : Nat) (hl : sent.length = n) (hn : n ≤ maxLen) (gl : got.length = m) (hm : m ≤ maxLen) (a : Option Addr) (cap : Nat) (a' : Option Addr) (cap' : Nat) (w : World) (h : Rd w a (dgs sent)) (g : Rd w a' (dgs got)) :
    Calls Try.prog 20 #[.slice a n cap, .slice a' m cap'] w (Ret w (.bool (partB sent got))) := by
  unfold maxLen at hn hm
  have H := Lib.hid h
  have HL := Lib.hid hl
  have G := Lib.hid g
  have GL := Lib.hid gl
  clear h hl g gl
  go_enter Try.func20, Try.ntmps20
  go_wp2_with fail
  go_loopg [5] m (fun g i wr => ∃ k : Nat, k ≤ m ∧ g = m - k ∧ i = .int .i64 k ∧ Below w.heap.size w wr ∧ Hid (∀ i (hi : i < got.length), i < k → hasB sent got[i] = true))
  case atStart => exact ⟨0, by omega, by omega, rfl, Below.refl _ _, fun i _ h => by omega⟩
  case round =>
    obtain ⟨k, hk, hg, rfl, hbw, hall⟩ := hrel
    by_cases hlt : k < m
    · have hkl : k < got.length := by have := GL.out; omega
      obtain ⟨b, off, rfl, hb, hc⟩ := dgs_at (G.out.below hbw) GL.out (by omega)
      obtain ⟨e0, e1⟩ := hc k hkl
      have hn' : n ≤ maxLen := by unfold maxLen; omega
      clear hc
      go_wp2_with fail
      have hR : Rd wr a (dgs sent) := (H.out.below hbw).below (by repeat (first | with_reducible exact Below.refl _ _ | (with_reducible refine Below.al ?_) | (with_reducible refine Below.drew ?_) | (with_reducible refine Below.set ?_ (by first | (simp; done) | omega | (simp; omega))) | (with_reducible refine Below.thru ?_ (by assumption)) | (with_reducible refine Below.chg ?_ (by assumption) (by first | (simp; done) | omega | (simp; omega)))))
      refine Calls.mono (in_any sent got[k] n HL.out hn' a cap _ hR) ?_
      rintro e w1 ⟨rfl, hb1⟩
      have z1 := Below.size hb1; try simp only [World.size_alloc, World.size_setCell, World.size_drew] at z1
      cases hq : hasB sent got[k]
      · have hf : partB sent got = false := List.all_eq_false.2 ⟨got[k], List.getElem_mem hkl, by simp [hq]⟩
        replace hf := Lib.hid hf
        go_wp2_with fail
        go_ret
        exact Ret.mk (congrArg Value.bool hf.out.symm) (by repeat (first | with_reducible exact Below.refl _ _ | (with_reducible refine Below.al ?_) | (with_reducible refine Below.drew ?_) | (with_reducible refine Below.set ?_ (by first | (simp; done) | omega | (simp; omega))) | (with_reducible refine Below.thru ?_ (by assumption)) | (with_reducible refine Below.chg ?_ (by assumption) (by first | (simp; done) | omega | (simp; omega)))))
      · have hall' : Hid (∀ i (hi : i < got.length), i < k + 1 → hasB sent got[i] = true) := fun i hi h => by
          by_cases e : i = k
          · subst e; exact hq
          · exact hall.out i hi (by omega)
        go_wp2_with fail
        go_roundg (m - (k + 1))
        case measure => omega
        case rel => exact ⟨k + 1, by omega, rfl, by go_num, (by repeat (first | with_reducible exact Below.refl _ _ | (with_reducible refine Below.al ?_) | (with_reducible refine Below.drew ?_) | (with_reducible refine Below.set ?_ (by first | (simp; done) | omega | (simp; omega))) | (with_reducible refine Below.thru ?_ (by assumption)) | (with_reducible refine Below.chg ?_ (by assumption) (by first | (simp; done) | omega | (simp; omega))))), hall'⟩
    · have hf : partB sent got = true := all_all fun i hi => hall.out i hi (by have := GL.out; omega)
      replace hf := Lib.hid hf
      go_wp2_with fail
      go_ret
      exact Ret.mk (congrArg Value.bool hf.out.symm) (by repeat (first | with_reducible exact Below.refl _ _ | (with_reducible refine Below.al ?_) | (with_reducible refine Below.drew ?_) | (with_reducible refine Below.set ?_ (by first | (simp; done) | omega | (simp; omega))) | (with_reducible refine Below.thru ?_ (by assumption)) | (with_reducible refine Below.chg ?_ (by assumption) (by first | (simp; done) | omega | (simp; omega)))))
end Go.Proofs.Ythodfihdmhkgeaa.Chan
