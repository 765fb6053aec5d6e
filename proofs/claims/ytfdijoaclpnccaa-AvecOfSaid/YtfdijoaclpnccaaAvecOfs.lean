/- The walk of the statement AvecOf. -/
import Derived.Test.YtfdijoaclpnccaaAvecLaw
namespace Go.Proofs.Ytfdijoaclpnccaa.Avec
set_option linter.unusedSimpArgs false
set_option linter.unusedVariables false
open Go Go.RowKit Go.Proofs.Ytfdijoaclpnccaa Go.Proofs.Ytfdijoaclpnccaa.Circ
attribute [local irreducible] Calls

set_option maxRecDepth 100000 in
set_option maxHeartbeats 1000000 in
theorem of_walk (a0 : Option Addr) (n cap0 : Nat) (w : World) (h0 : Fits w (.slice 1 (.int .i64)) [.slice a0 n cap0]) :
    Calls Try.prog 8 #[.slice a0 n cap0] w (Ret w (.bool true)) := by
  obtain ⟨hn, _, L, hl, _, hL⟩ := ints_in h0
  unfold maxLen at hn
  clear h0
  replace hL := Lib.hid hL; replace hl := Lib.hid hl
  go_enter Try.func8, Try.ntmps8
  go_wp2_with fail
  refine Calls.mono (works_law _) ?_
  rintro e w1 ⟨rfl, hb1⟩
  have z1 := Below.size hb1; try simp only [World.size_alloc, World.size_setCell, World.size_drew] at z1
  by_cases h5 : n ≤ 500
  · have q0 : decide ((500 : Int) < (n : Int)) = false := decide_eq_false (by omega)
    have P1 := of_any L n hl.out (by omega) a0 cap0 w1 (hL.out.below hb1)
    replace P1 := Lib.hid P1
    go_wp2_with fail
    refine Calls.mono P1.out ?_
    rintro e w2 ⟨v2, rfl, H2⟩
    obtain ⟨a2, c2, rfl, hm2, _, R2⟩ := (H2.row 0 rfl).rd (by omega)
    have hb2 := H2.below
    have ol : (ofL L).length ≤ 1000000 := by have := of_len L; have := hl.out; omega
    have P2 := states_ref (ofL L) _ rfl ol a2 c2 w2 R2
    have hst : statesL (ofL L) = L.map norm := (fine_of L).2
    have hsl : (L.map norm).length = n := by rw [List.length_map]; exact hl.out
    rw [hst, hsl] at P2
    clear P1 H2
    replace P2 := Lib.hid P2; replace R2 := Lib.hid R2
    go_wp2_with fail
    refine Calls.mono P2.out ?_
    rintro e w3 ⟨v3, rfl, H3⟩
    obtain ⟨a3, c3, rfl, _, _, R3⟩ := (H3.row 0 rfl).rd (by omega)
    have hb3 := H3.below
    have P3 := of_ref L n hl.out (by omega) a0 cap0 w3 (((hL.out.below hb1).below hb2).below hb3)
    clear P2 H3
    replace P3 := Lib.hid P3; replace R3 := Lib.hid R3
    go_wp2_with fail
    refine Calls.mono P3.out ?_
    rintro e w4 ⟨v4, rfl, H4⟩
    obtain ⟨a4, c4, rfl, _, _, R4⟩ := (H4.row 0 rfl).rd (by omega)
    have hb4 := H4.below
    have P4 := same_any (ofL L) _ rfl hm2 a2 c2 a4 c4 w4 ((R2.out.below hb3).below hb4) R4
    clear P3 H4 R4
    replace P4 := Lib.hid P4
    go_wp2_with fail
    refine Calls.mono (P4.out) ?_
    rintro e w5 ⟨rfl, hb5⟩
    have z5 := Below.size hb5; try simp only [World.size_alloc, World.size_setCell, World.size_drew] at z5
    clear P4
    have R5 := (R3.out.below hb4).below hb5
    have z1 := hb1.size
    have z2 := hb2.size
    have z3 := hb3.size
    have z4 := hb4.size
    have hbb : Below w.heap.size w w5 := (((hb1.trans (hb2.mono z1)).trans (hb3.mono (by omega))).trans (hb4.mono (by omega))).trans (hb5.mono (by omega))
    have L5 := hL.out.below hbb
    clear hb1 hb2 hb3 hb4 hb5 hL R2 R3
    replace R5 := Lib.hid R5; replace L5 := Lib.hid L5; replace hst := Lib.hid hst
    go_wp2_with fail
    go_loopg [5, 6] n (fun g i _ wr => ∃ j : Nat, j ≤ n ∧ g = n - j ∧ i = .int .i64 j ∧ Below w5.heap.size w5 wr)
    case atStart => exact ⟨0, by omega, by omega, rfl, (by repeat (first | with_reducible exact Below.refl _ _ | (with_reducible refine Below.al ?_) | (with_reducible refine Below.drew ?_) | (with_reducible refine Below.set ?_ (by first | (simp; done) | omega | (simp; omega))) | (with_reducible refine Below.thru ?_ (by assumption)) | (with_reducible refine Below.chg ?_ (by assumption) (by first | (simp; done) | omega | (simp; omega)))))⟩
    case round =>
      obtain ⟨j, hj, hg, rfl, hbw⟩ := hrel
      by_cases hlt : j < n
      · have hjl : j < L.length := by have := hl.out; omega
        obtain ⟨b, off, rfl, hb, hc⟩ := ints_cell (L5.out.below hbw) hl.out (by omega)
        obtain ⟨b3, off3, e3, hb3, hc3⟩ := ints_cell (R5.out.below hbw) hsl (by omega)
        subst e3
        have e0 := hc j hjl
        have e1 := hc3 j (by omega)
        simp only [List.getElem_map] at e1
        clear hc hc3
        generalize L[j] = s at *
        by_cases s0 : s = 0
        · subst s0
          rw [show norm 0 = 0 from rfl] at e1
          go_wp2_with fail
          go_roundg (n - (j + 1))
          case measure => omega
          case rel => exact ⟨j + 1, by omega, rfl, by go_num, (by repeat (first | with_reducible exact Below.refl _ _ | (with_reducible refine Below.al ?_) | (with_reducible refine Below.drew ?_) | (with_reducible refine Below.set ?_ (by first | (simp; done) | omega | (simp; omega))) | (with_reducible refine Below.thru ?_ (by assumption)) | (with_reducible refine Below.chg ?_ (by assumption) (by first | (simp; done) | omega | (simp; omega)))))⟩
        · by_cases s1 : s = 1
          · subst s1
            rw [show norm 1 = 1 from rfl] at e1
            go_wp2_with fail
            go_roundg (n - (j + 1))
            case measure => omega
            case rel => exact ⟨j + 1, by omega, rfl, by go_num, (by repeat (first | with_reducible exact Below.refl _ _ | (with_reducible refine Below.al ?_) | (with_reducible refine Below.drew ?_) | (with_reducible refine Below.set ?_ (by first | (simp; done) | omega | (simp; omega))) | (with_reducible refine Below.thru ?_ (by assumption)) | (with_reducible refine Below.chg ?_ (by assumption) (by first | (simp; done) | omega | (simp; omega)))))⟩
          · have q1 : (s == 0) = false := by simpa using s0
            have q2 : (s == 1) = false := by simpa using s1
            have q3 : (s != 0) = true := by simpa using s0
            have q4 : (s != 1) = true := by simpa using s1
            have hn3 : norm s = 3 := by
              unfold norm knownB
              by_cases s3 : s = 3
              · subst s3; rfl
              · rw [if_neg]
                simp [s0, s1, s3]
            rw [hn3] at e1
            clear hn3
            go_wp2_with fail
            go_roundg (n - (j + 1))
            case measure => omega
            case rel => exact ⟨j + 1, by omega, rfl, by go_num, (by repeat (first | with_reducible exact Below.refl _ _ | (with_reducible refine Below.al ?_) | (with_reducible refine Below.drew ?_) | (with_reducible refine Below.set ?_ (by first | (simp; done) | omega | (simp; omega))) | (with_reducible refine Below.thru ?_ (by assumption)) | (with_reducible refine Below.chg ?_ (by assumption) (by first | (simp; done) | omega | (simp; omega)))))⟩
      · obtain rfl : j = n := by omega
        have hbe := hbb.trans (hbw.mono (hbb.size))
        replace hbe := Lib.hid hbe
        go_wp2_with fail
        go_ret
        exact Ret.mk rfl hbe.out
  · have q0 : decide ((500 : Int) < (n : Int)) = true := decide_eq_true (by omega)
    go_wp2_with fail
    go_ret
    exact Ret.mk rfl (by repeat (first | with_reducible exact Below.refl _ _ | (with_reducible refine Below.al ?_) | (with_reducible refine Below.drew ?_) | (with_reducible refine Below.set ?_ (by first | (simp; done) | omega | (simp; omega))) | (with_reducible refine Below.thru ?_ (by assumption)) | (with_reducible refine Below.chg ?_ (by assumption) (by first | (simp; done) | omega | (simp; omega)))))
end Go.Proofs.Ytfdijoaclpnccaa.Avec
