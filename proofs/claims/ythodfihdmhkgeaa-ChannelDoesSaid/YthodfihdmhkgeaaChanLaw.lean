/- The walks of the statements of layer 39 about lists. -/
import Derived.Test.YthodfihdmhkgeaaChanWithin
namespace Go.Proofs.Ythodfihdmhkgeaa.Chan
set_option linter.unusedSimpArgs false
set_option linter.unusedVariables false
open Go Go.RowKit Go.Proofs.Ythodfihdmhkgeaa
attribute [local irreducible] Calls

set_option maxHeartbeats 400000 in
theorem ints_any (l l2 : List Int) (n m : Nat) (hl : l.length = n) (hn : n ≤ maxLen) (gl : l2.length = m) (hm : m ≤ maxLen) (a : Option Addr) (cap : Nat) (a' : Option Addr) (cap' : Nat) (w : World) (h : Rd w a (i64s l)) (g : Rd w a' (i64s l2)) :
    Calls Try.prog 23 #[.slice a n cap, .slice a' m cap'] w (Ret w (.bool (decide (l = l2)))) := by
  unfold maxLen at hn hm
  have H := Lib.hid h
  have HL := Lib.hid hl
  have G := Lib.hid g
  have GL := Lib.hid gl
  clear h hl g gl
  by_cases e : n = m
  · subst e
    go_enter Try.func23, Try.ntmps23
    go_wp2_with fail
    go_loopg [5] n (fun g i wr => ∃ k : Nat, k ≤ n ∧ g = n - k ∧ i = .int .i64 k ∧ Below w.heap.size w wr ∧ Hid (∀ i, i < k → l[i]? = l2[i]?))
    case atStart => exact ⟨0, by omega, by omega, rfl, Below.refl _ _, fun i h => by omega⟩
    case round =>
      obtain ⟨k, hk, hg, rfl, hbw, hall⟩ := hrel
      by_cases hlt : k < n
      · have hkl : k < l.length := by have := HL.out; omega
        have hkl2 : k < l2.length := by have := GL.out; omega
        obtain ⟨b, off, rfl, hb, hc⟩ := (H.out.below hbw).cons (i64s_ne HL.out hlt)
        obtain ⟨b2, off2, rfl, hb2, hc2⟩ := (G.out.below hbw).cons (i64s_ne GL.out hlt)
        have e0 := hc k _ (i64s_at hkl)
        have e1 := hc2 k _ (i64s_at hkl2)
        clear hc hc2
        by_cases hr : l[k] = l2[k]
        · have hall' : Hid (∀ i, i < k + 1 → l[i]? = l2[i]?) := fun i hi => by
            by_cases e : i = k
            · subst e; rw [List.getElem?_eq_getElem hkl, List.getElem?_eq_getElem hkl2, hr]
            · exact hall.out i (by omega)
          have q : (l[k] != l2[k]) = false := by simp [hr]
          clear hr
          go_wp2_with fail
          refine wp_region_near (by kernel_rfl) (by kernel_rfl) ?_
          intro hs
          repeat (go_big_quiet_step (fail))
          refine wpQuiet_nil ?_
          clear hs
          intro w2 hb3
          go_wp2_with fail
          go_roundg (n - (k + 1))
          case measure => omega
          case rel => exact ⟨k + 1, by omega, rfl, by go_num, (by repeat (first | with_reducible exact Below.refl _ _ | (with_reducible refine Below.al ?_) | (with_reducible refine Below.drew ?_) | (with_reducible refine Below.set ?_ (by first | (simp; done) | omega | (simp; omega))) | (with_reducible refine Below.thru ?_ (by assumption)) | (with_reducible refine Below.chg ?_ (by assumption) (by first | (simp; done) | omega | (simp; omega))))), hall'⟩
        · have hf : decide (l = l2) = false := decide_eq_false fun e => hr (by subst e; rfl)
          have q : (l[k] != l2[k]) = true := by simp [hr]
          replace hf := Lib.hid hf
          go_wp2_with fail
          refine wp_region_near (by kernel_rfl) (by kernel_rfl) ?_
          intro hs
          repeat (go_big_quiet_step (fail))
          refine wpQuiet_nil ?_
          clear hs
          intro w2 hb3
          go_wp2_with fail
          go_ret
          exact Ret.mk (congrArg Value.bool hf.out.symm) (by repeat (first | with_reducible exact Below.refl _ _ | (with_reducible refine Below.al ?_) | (with_reducible refine Below.drew ?_) | (with_reducible refine Below.set ?_ (by first | (simp; done) | omega | (simp; omega))) | (with_reducible refine Below.thru ?_ (by assumption)) | (with_reducible refine Below.chg ?_ (by assumption) (by first | (simp; done) | omega | (simp; omega)))))
      · have hf : decide (l = l2) = true := decide_eq_true (List.ext_getElem? fun i => by
          by_cases h : i < k
          · exact hall.out i h
          · rw [List.getElem?_eq_none (by have := HL.out; omega), List.getElem?_eq_none (by have := GL.out; omega)])
        replace hf := Lib.hid hf
        go_wp2_with fail
        go_ret
        exact Ret.mk (congrArg Value.bool hf.out.symm) (by repeat (first | with_reducible exact Below.refl _ _ | (with_reducible refine Below.al ?_) | (with_reducible refine Below.drew ?_) | (with_reducible refine Below.set ?_ (by first | (simp; done) | omega | (simp; omega))) | (with_reducible refine Below.thru ?_ (by assumption)) | (with_reducible refine Below.chg ?_ (by assumption) (by first | (simp; done) | omega | (simp; omega)))))
  · have hf : decide (l = l2) = false := decide_eq_false fun x => e (by rw [← HL.out, ← GL.out, x])
    have q : ((n : Int) != (m : Int)) = true := by simp; omega
    replace hf := Lib.hid hf
    go_enter Try.func23, Try.ntmps23
    go_wp2_with fail
    go_ret
    exact Ret.mk (congrArg Value.bool hf.out.symm) (by repeat (first | with_reducible exact Below.refl _ _ | (with_reducible refine Below.al ?_) | (with_reducible refine Below.drew ?_) | (with_reducible refine Below.set ?_ (by first | (simp; done) | omega | (simp; omega))) | (with_reducible refine Below.thru ?_ (by assumption)) | (with_reducible refine Below.chg ?_ (by assumption) (by first | (simp; done) | omega | (simp; omega)))))

def greatB (l : List Dg) : Bool := decide (150 < l.length) || l.any fun d => decide (1000 < d.2.size)
set_option maxHeartbeats 400000 in
theorem great_any (l : List Dg) (n : Nat) (hl : l.length = n) (hn : n ≤ maxLen) (a : Option Addr) (cap : Nat) (w : World) (h : Rd w a (dgs l)) :
    Calls Try.prog 16 #[.slice a n cap] w (Ret w (.bool (greatB l))) := by
  unfold maxLen at hn
  have H := Lib.hid h
  have HL := Lib.hid hl
  clear h hl
  go_enter Try.func16, Try.ntmps16
  go_wp2_with fail
  go_loopg [3] n (fun g i wr => w = wr ∧ ∃ k : Nat, k ≤ n ∧ k ≤ 150 ∧ g = n - k ∧ i = .int .i64 k ∧ Hid (∀ i (hi : i < l.length), i < k → l[i].2.size ≤ 1000))
  case atStart => exact ⟨rfl, 0, by omega, by omega, by omega, rfl, fun i _ h => by omega⟩
  case round =>
    obtain ⟨rfl, k, hk, hk1, hg, rfl, hall⟩ := hrel
    by_cases hlt : k < n
    · have hkl : k < l.length := by have := HL.out; omega
      obtain ⟨b, off, rfl, hb, hc⟩ := dgs_at H.out HL.out (by omega)
      obtain ⟨e0, e1⟩ := hc k hkl
      clear hc
      by_cases h150 : 150 ≤ k
      · have hf : greatB l = true := by unfold greatB; rw [decide_eq_true (by have := HL.out; omega)]; rfl
        have q : decide ((150 : Int) ≤ k) = true := decide_eq_true (by omega)
        replace hf := Lib.hid hf
        go_wp2_with fail
        go_ret
        exact Ret.mk (congrArg Value.bool hf.out.symm) (by repeat (first | with_reducible exact Below.refl _ _ | (with_reducible refine Below.al ?_) | (with_reducible refine Below.drew ?_) | (with_reducible refine Below.set ?_ (by first | (simp; done) | omega | (simp; omega))) | (with_reducible refine Below.thru ?_ (by assumption)) | (with_reducible refine Below.chg ?_ (by assumption) (by first | (simp; done) | omega | (simp; omega)))))
      · have q : decide ((150 : Int) ≤ k) = false := decide_eq_false (by omega)
        by_cases hs : 1000 < l[k].2.size
        · have hf : greatB l = true := by
            unfold greatB
            rw [List.any_eq_true.2 ⟨l[k], List.getElem_mem hkl, decide_eq_true hs⟩, Bool.or_true]
          have q2 : decide ((1000 : Int) < l[k].2.size) = true := decide_eq_true (by omega)
          replace hf := Lib.hid hf
          go_wp2_with fail
          go_ret
          exact Ret.mk (congrArg Value.bool hf.out.symm) (by repeat (first | with_reducible exact Below.refl _ _ | (with_reducible refine Below.al ?_) | (with_reducible refine Below.drew ?_) | (with_reducible refine Below.set ?_ (by first | (simp; done) | omega | (simp; omega))) | (with_reducible refine Below.thru ?_ (by assumption)) | (with_reducible refine Below.chg ?_ (by assumption) (by first | (simp; done) | omega | (simp; omega)))))
        · have q2 : decide ((1000 : Int) < l[k].2.size) = false := decide_eq_false (by omega)
          have hall' : Hid (∀ i (hi : i < l.length), i < k + 1 → l[i].2.size ≤ 1000) := fun i hi h => by
            by_cases e : i = k
            · subst e; omega
            · exact hall.out i hi (by omega)
          clear hs
          go_wp2_with fail
          go_roundg (n - (k + 1))
          case measure => omega
          case rel => exact ⟨rfl, k + 1, by omega, by omega, rfl, by go_num, hall'⟩
    · have hf : greatB l = false := by
        have ha : l.any (fun d => decide (1000 < d.2.size)) = false := any_none fun i hi => decide_eq_false (by have := hall.out i hi (by have := HL.out; omega); omega)
        unfold greatB
        rw [decide_eq_false (by have := HL.out; omega), ha]
        rfl
      replace hf := Lib.hid hf
      go_wp2_with fail
      go_ret
      exact Ret.mk (congrArg Value.bool hf.out.symm) (by repeat (first | with_reducible exact Below.refl _ _ | (with_reducible refine Below.al ?_) | (with_reducible refine Below.drew ?_) | (with_reducible refine Below.set ?_ (by first | (simp; done) | omega | (simp; omega))) | (with_reducible refine Below.thru ?_ (by assumption)) | (with_reducible refine Below.chg ?_ (by assumption) (by first | (simp; done) | omega | (simp; omega)))))
theorem great_no {l : List Dg} (h : greatB l = false) : l.length ≤ 150 ∧ ∀ d ∈ l, d.2.size ≤ 1000 := by
  unfold greatB at h
  rw [Bool.or_eq_false_iff] at h
  obtain ⟨h1, h2⟩ := h
  refine ⟨by have := of_decide_eq_false h1; omega, fun d hd => ?_⟩
  have := List.any_eq_false.1 h2 d hd
  simp at this
  omega

def exA1 : List Dg := [(1, ⟨#[97]⟩), (2, ⟨#[98]⟩), (3, ⟨#[97]⟩)]
def exB1 : List Dg := [(2, ⟨#[98]⟩), (3, ⟨#[97]⟩)]
theorem rd_new {w : World} {vs : List Value} {t : TypeId} : Rd (w.alloc (.cells vs.toArray t)) (some ⟨w.heap.size, 0, none⟩) vs :=
  .inr ⟨w.heap.size, 0, rfl, by simp, fun j u hu => by simpa [World.cell?_alloc_new] using hu⟩
set_option maxHeartbeats 400000 in
theorem works_law (w : World) : Calls Try.prog 15 #[] w (Ret w (.bool true)) := by
  have hA : Rd (w.alloc (.cells (dgs exA1).toArray 32)) (some ⟨w.heap.size, 0, none⟩) (dgs exA1) := rd_new
  have hB : Rd ((w.alloc (.cells (dgs exA1).toArray 32)).alloc (.cells (dgs exB1).toArray 32)) (some ⟨(w.alloc (.cells (dgs exA1).toArray 32)).heap.size, 0, none⟩) (dgs exB1) := rd_new
  replace hA := hA.below ((Below.refl _ _).alloc (Nat.le_refl _) (.cells (dgs exB1).toArray 32))
  rw [World.size_alloc] at hB
  replace hA := Lib.hid hA; replace hB := Lib.hid hB
  go_enter Try.func15, Try.ntmps15
  go_wp2_with fail
  refine Calls.mono (rising_any exA1 3 rfl (by decide) _ _ _ hA.out) ?_
  rintro e w1 ⟨rfl, hb1⟩
  have z1 := Below.size hb1; try simp only [World.size_alloc, World.size_setCell, World.size_drew] at z1
  rw [show risingB exA1 = true from by decide +kernel]
  replace hA := hA.out.below hb1
  replace hB := hB.out.below hb1
  replace hA := Lib.hid hA; replace hB := Lib.hid hB
  go_wp2_with fail
  refine Calls.mono (part_any exA1 exB1 3 2 rfl (by decide) rfl (by decide) _ _ _ _ _ hA.out hB.out) ?_
  rintro e w2 ⟨rfl, hb2⟩
  have z2 := Below.size hb2; try simp only [World.size_alloc, World.size_setCell, World.size_drew] at z2
  rw [show partB exA1 exB1 = true from by decide +kernel]
  replace hA := hA.out.below hb2
  replace hB := hB.out.below hb2
  replace hA := Lib.hid hA; replace hB := Lib.hid hB
  go_wp2_with fail
  refine Calls.mono (within_any exA1 exB1 3 2 rfl (by decide) rfl (by decide) _ _ _ _ _ hA.out hB.out) ?_
  rintro e w3 ⟨rfl, hb3⟩
  have z3 := Below.size hb3; try simp only [World.size_alloc, World.size_setCell, World.size_drew] at z3
  rw [show withinB exA1 exB1 = true from by decide +kernel]
  replace hA := hA.out.below hb3
  replace hB := hB.out.below hb3
  replace hA := Lib.hid hA; replace hB := Lib.hid hB
  go_wp2_with fail
  refine Calls.mono (within_any exB1 exA1 2 3 rfl (by decide) rfl (by decide) _ _ _ _ _ hB.out hA.out) ?_
  rintro e w4 ⟨rfl, hb4⟩
  have z4 := Below.size hb4; try simp only [World.size_alloc, World.size_setCell, World.size_drew] at z4
  rw [show withinB exB1 exA1 = false from by decide +kernel]
  replace hA := hA.out.below hb4
  replace hB := hB.out.below hb4
  replace hA := Lib.hid hA; replace hB := Lib.hid hB
  go_wp2_with fail
  refine Calls.mono (lost_any exA1 exB1 3 2 rfl (by decide) rfl (by decide) _ _ _ _ _ hA.out hB.out) ?_
  rintro e w5 ⟨v, rfl, h5⟩
  rw [show lostL exA1 exB1 = [1] from by decide +kernel] at h5
  obtain ⟨a5, c5, rfl, hn5, _, hR5⟩ := (h5.row 0 rfl).rd (by omega)
  have hb5 := h5.below
  have hR6 := hR5.below ((Below.refl _ _).alloc (Nat.le_refl _) (.cells (i64s [1]).toArray 3))
  replace hR5 := Lib.hid hR5; replace hR6 := Lib.hid hR6
  go_wp2_with fail
  refine Calls.mono (ints_any [1] [1] 1 1 rfl (by decide) rfl (by decide) _ _ _ _ _ hR6.out rd_new) ?_
  rintro e w6 ⟨rfl, hb6⟩
  have z6 := Below.size hb6; try simp only [World.size_alloc, World.size_setCell, World.size_drew] at z6
  go_wp2_with fail
  go_ret
  exact Ret.mk rfl (by repeat (first | with_reducible exact Below.refl _ _ | (with_reducible refine Below.al ?_) | (with_reducible refine Below.drew ?_) | (with_reducible refine Below.set ?_ (by first | (simp; done) | omega | (simp; omega))) | (with_reducible refine Below.thru ?_ (by assumption)) | (with_reducible refine Below.chg ?_ (by assumption) (by first | (simp; done) | omega | (simp; omega)))))

set_option maxRecDepth 100000 in
set_option maxHeartbeats 800000 in
theorem tells_walk (a : Option Addr) (n cap : Nat) (a' : Option Addr) (m cap' : Nat) (w : World) (h0 : Fits w (.slice 2 (.cons 1 (.int .i64) (.cons 1 .str .nil))) [.slice a n cap]) (h1 : Fits w (.slice 2 (.cons 1 (.int .i64) (.cons 1 .str .nil))) [.slice a' m cap']) :
    Calls Try.prog 3 #[.slice a n cap, .slice a' m cap'] w (Ret w (.bool true)) := by
  obtain ⟨hn, _, sent, hl, _, hS⟩ := dgs_in h0
  obtain ⟨hm, _, got, gl, _, hG⟩ := dgs_in h1
  clear h0 h1
  replace hl := Lib.hid hl; replace gl := Lib.hid gl; replace hS := Lib.hid hS; replace hG := Lib.hid hG
  go_enter Try.func3, Try.ntmps3
  go_wp2_with fail
  refine Calls.mono (works_law _) ?_
  rintro e w1 ⟨rfl, hb1⟩
  have z1 := Below.size hb1; try simp only [World.size_alloc, World.size_setCell, World.size_drew] at z1
  go_wp2_with fail
  refine Calls.mono (great_any sent n hl.out hn a cap _ (hS.out.below hb1)) ?_
  rintro e w2 ⟨rfl, hb2⟩
  have z2 := Below.size hb2; try simp only [World.size_alloc, World.size_setCell, World.size_drew] at z2
  cases hg : greatB sent
  · go_wp2_with fail
    refine Calls.mono (great_any got m gl.out hm a' cap' _ ((hG.out.below hb1).below hb2)) ?_
    rintro e w3 ⟨rfl, hb3⟩
    have z3 := Below.size hb3; try simp only [World.size_alloc, World.size_setCell, World.size_drew] at z3
    cases hg' : greatB got
    · have hn' : n ≤ 100000 := by have := (great_no hg).1; have := hl.out; omega
      have hm' : m ≤ 100000 := by have := (great_no hg').1; have := gl.out; omega
      have S3 := ((hS.out.below hb1).below hb2).below hb3
      have G3 := ((hG.out.below hb1).below hb2).below hb3
      clear hg hg'
      replace S3 := Lib.hid S3; replace G3 := Lib.hid G3
      go_wp2_with fail
      refine Calls.mono (rising_any got m gl.out hm a' cap' _ G3.out) ?_
      rintro e w4 ⟨rfl, hb4⟩
      have z4 := Below.size hb4; try simp only [World.size_alloc, World.size_setCell, World.size_drew] at z4
      go_wp2_with fail
      refine Calls.mono (rrising_any got m gl.out hm a' cap' _ (G3.out.below hb4)) ?_
      rintro e w5 ⟨rfl, hb5⟩
      have z5 := Below.size hb5; try simp only [World.size_alloc, World.size_setCell, World.size_drew] at z5
      have S5 := (S3.out.below hb4).below hb5
      have G5 := (G3.out.below hb4).below hb5
      replace S5 := Lib.hid S5; replace G5 := Lib.hid G5
      go_wp2_with fail
      refine Calls.mono (part_any sent got n m hl.out hn gl.out hm a cap a' cap' _ S5.out G5.out) ?_
      rintro e w6 ⟨rfl, hb6⟩
      have z6 := Below.size hb6; try simp only [World.size_alloc, World.size_setCell, World.size_drew] at z6
      go_wp2_with fail
      refine Calls.mono (rpart_any sent got n m hl.out hn gl.out hm a cap a' cap' _ (S5.out.below hb6) (G5.out.below hb6)) ?_
      rintro e w7 ⟨rfl, hb7⟩
      have z7 := Below.size hb7; try simp only [World.size_alloc, World.size_setCell, World.size_drew] at z7
      have S7 := (S5.out.below hb6).below hb7
      have G7 := (G5.out.below hb6).below hb7
      replace S7 := Lib.hid S7; replace G7 := Lib.hid G7
      go_wp2_with fail
      refine Calls.mono (within_any sent got n m hl.out hn gl.out hm a cap a' cap' _ S7.out G7.out) ?_
      rintro e w8 ⟨rfl, hb8⟩
      have z8 := Below.size hb8; try simp only [World.size_alloc, World.size_setCell, World.size_drew] at z8
      go_wp2_with fail
      refine Calls.mono (rwithin_any sent got n m hl.out hn gl.out hm' a cap a' cap' _ (S7.out.below hb8) (G7.out.below hb8)) ?_
      rintro e w9 ⟨rfl, hb9⟩
      have z9 := Below.size hb9; try simp only [World.size_alloc, World.size_setCell, World.size_drew] at z9
      have S9 := (S7.out.below hb8).below hb9
      have G9 := (G7.out.below hb8).below hb9
      replace S9 := Lib.hid S9; replace G9 := Lib.hid G9
      go_wp2_with fail
      refine Calls.mono (lost_any sent got n m hl.out hn' gl.out hm a cap a' cap' _ S9.out G9.out) ?_
      rintro e w10 ⟨v, rfl, h10⟩
      have hb10 := h10.below
      have S10 := S9.out.below hb10
      have G10 := G9.out.below hb10
      obtain ⟨a1, c1, rfl, hn1, hn2, R1⟩ := (h10.row 0 rfl).rd (by omega)
      replace S10 := Lib.hid S10; replace G10 := Lib.hid G10; replace R1 := Lib.hid R1
      clear hn2
      go_wp2_with fail
      refine Calls.mono (rlost_any sent got n m hl.out hn' gl.out hm a cap a' cap' _ S10.out G10.out) ?_
      rintro e w11 ⟨v, rfl, h11⟩
      have hb11 := h11.below
      have R11 := R1.out.below hb11
      obtain ⟨a2, c2, rfl, hn3, hn4, R2⟩ := (h11.row 0 rfl).rd (by omega)
      replace R11 := Lib.hid R11; replace R2 := Lib.hid R2
      clear hn4
      go_wp2_with fail
      refine Calls.mono (ints_any (lostL sent got) (lostL sent got) _ _ rfl hn1 rfl hn1 a1 c1 a2 c2 _ R11.out R2.out) ?_
      rintro e w12 ⟨rfl, hb12⟩
      have z12 := Below.size hb12; try simp only [World.size_alloc, World.size_setCell, World.size_drew] at z12
      rw [decide_eq_true rfl]
      go_wp2_with fail
      go_ret
      exact Ret.mk rfl (by repeat (first | with_reducible exact Below.refl _ _ | (with_reducible refine Below.al ?_) | (with_reducible refine Below.drew ?_) | (with_reducible refine Below.set ?_ (by first | (simp; done) | omega | (simp; omega))) | (with_reducible refine Below.thru ?_ (by assumption)) | (with_reducible refine Below.chg ?_ (by assumption) (by first | (simp; done) | omega | (simp; omega)))))
    · go_wp2_with fail
      go_ret
      exact Ret.mk rfl (by repeat (first | with_reducible exact Below.refl _ _ | (with_reducible refine Below.al ?_) | (with_reducible refine Below.drew ?_) | (with_reducible refine Below.set ?_ (by first | (simp; done) | omega | (simp; omega))) | (with_reducible refine Below.thru ?_ (by assumption)) | (with_reducible refine Below.chg ?_ (by assumption) (by first | (simp; done) | omega | (simp; omega)))))
  · go_wp2_with fail
    go_ret
    exact Ret.mk rfl (by repeat (first | with_reducible exact Below.refl _ _ | (with_reducible refine Below.al ?_) | (with_reducible refine Below.drew ?_) | (with_reducible refine Below.set ?_ (by first | (simp; done) | omega | (simp; omega))) | (with_reducible refine Below.thru ?_ (by assumption)) | (with_reducible refine Below.chg ?_ (by assumption) (by first | (simp; done) | omega | (simp; omega)))))
end Go.Proofs.Ythodfihdmhkgeaa.Chan
