/- The walks of works, and of the statement CcidNone: a control that is none lets nothing be sent, and hears nothing. -/
import Derived.Test.YtibidmenpoiacaaCcidWorks
import Derived.Test.YtibidmenpoiacaaFits
namespace Go.Proofs.Ytibidmenpoiacaa.Ccid
set_option linter.unusedSimpArgs false
set_option linter.unusedVariables false
open Go Go.RowKit Go.Shelf Go.Proofs.Ytibidmenpoiacaa Go.Proofs.Ytibidmenpoiacaa.Circ
open Go.Proofs.Ytibidmenpoiacaa.Flight (Un flightA putU putOk timeV OkU newsV newsL hearA leftU lostU)
open Go.Proofs.Ytibidmenpoiacaa.Heard (Hd heardA gotH)
open Go.Proofs.Ytibidmenpoiacaa.Avec (Run runs findV eachL)
attribute [local irreducible] Calls

theorem wants_one {W w : World} {S : Nat → Prop} {p : Nat} {h : Hd} {r : List Asn} (hu : h.untold = 1) (H : St W S w (heardA p h :: r)) : Calls Try.prog 25 #[.pointer (some ⟨p, 0, none⟩), .int .i64 1] w (Ret w (.bool true)) := by
  obtain ⟨g, H1⟩ := Heard.heard_parts H
  obtain ⟨z, c, f⟩ := H1.box 0 rfl
  unfold Heard.hdV at c
  rw [hu] at c
  clear H H1 hu
  go_enter Try.func25, Try.ntmps25
  go_wp2_with fail
  go_ret
  exact Ret.mk rfl (by repeat (first | with_reducible exact Below.refl _ _ | (with_reducible refine Below.al ?_) | (with_reducible refine Below.drew ?_) | (with_reducible refine Below.set ?_ (by first | (simp; done) | omega | (simp; omega))) | (with_reducible refine Below.thru ?_ (by assumption)) | (with_reducible refine Below.chg ?_ (by assumption) (by first | (simp; done) | omega | (simp; omega)))))
theorem owes_st {W w : World} {S : Nat → Prop} {b : Nat} {hd : Hd} {l : List Un} {x : Cc} {r : List Asn} (hu : hd.untold = 1) (H : St W S w (ctlA b hd l x :: r)) : Calls Try.prog 9 #[.pointer (some ⟨b, 0, none⟩), .int .i64 1] w (Ret w (.bool true)) := by
  obtain ⟨p, f, H1⟩ := ctl_parts H
  obtain ⟨z, c, ff⟩ := H1.box 0 rfl
  have P := wants_one hu (H1.arrN [1, 0] rfl)
  unfold ccV at c
  clear H H1 hu
  replace P := Lib.hid P
  go_enter Try.func9, Try.ntmps9
  go_wp2_with fail
  refine Calls.mono (P.out) ?_
  rintro e w1 ⟨rfl, hb1⟩
  have z1 := Below.size hb1; try simp only [World.size_alloc, World.size_setCell, World.size_drew] at z1
  go_wp2_with fail
  go_ret
  exact Ret.mk rfl (by repeat (first | with_reducible exact Below.refl _ _ | (with_reducible refine Below.al ?_) | (with_reducible refine Below.drew ?_) | (with_reducible refine Below.set ?_ (by first | (simp; done) | omega | (simp; omega))) | (with_reducible refine Below.thru ?_ (by assumption)) | (with_reducible refine Below.chg ?_ (by assumption) (by first | (simp; done) | omega | (simp; omega)))))
def w3 (m : Nat) : List (Int × Int × Int) := (List.range m).map fun i : Nat => ((i : Int), 0, 0)
theorem w3_put {l : List Un} {j : Nat} (h : wU l = w3 j) (hj : j < 3) (u : Nat) : wU (putU l u (j : Int) 0) = w3 (j + 1) := by
  have hl : l.length = j := by have := congrArg List.length h; simpa [wU, w3] using this
  have e1 : ofC (j : Int) = (j : Int) := by unfold ofC; omega
  unfold putU
  rw [if_pos (by omega), e1]
  unfold wU w3 at *
  rw [List.map_append, h, List.range_succ, List.map_append]
  rfl
theorem works_got : gotH ⟨ofC 5, [true], 0, 0⟩ 6 = (⟨6, [true, true], 1, 0⟩, true) := by rfl
set_option maxRecDepth 100000 in
theorem works_law (w : World) : Calls Try.prog 4 #[] w (Ret w (.bool true)) := by
  go_enter Try.func4, Try.ntmps4
  go_wp2_with fail
  refine Calls.mono (new_any 5 _) ?_
  rintro e w1 ⟨b, rfl, H1⟩
  replace H1 := Lib.hid H1
  go_wp2_with fail
  go_loopg [2, 3] 4 (fun g nv i wr => ∃ (j : Nat) (l : List Un), j ≤ 4 ∧ Hid (g = 4 - j) ∧ i = .int .i64 j ∧ nv = .int .i64 ((min j 3 : Nat) : Int) ∧ Hid (wU l = w3 (min j 3)) ∧ Hid (St w none0 wr [ctlA b ⟨ofC 5, [true], 0, 0⟩ l x0]))
  case atStart => exact ⟨0, [], by omega, Lib.hid rfl, rfl, rfl, Lib.hid rfl, H1⟩
  case round =>
    clear H1
    obtain ⟨j, l, hj, hg, rfl, rfl, hu, HL⟩ := hrel
    have hlen : l.length = min j 3 := by have := congrArg List.length hu.out; simpa [wU, w3] using this
    by_cases hlt : j < 4
    · have q : decide ((j : Int) < 4) = true := decide_eq_true (by omega)
      have P := sent_st (j : Int) HL.out
      by_cases h3 : j < 3
      · have hmin : min j 3 = j := by omega
        have hmin2 : min (j + 1) 3 = j + 1 := by omega
        rw [hmin] at hu hlen ⊢
        have hput := fun u => w3_put hu.out h3 u
        simp only [hlen, if_pos (show (j : Int) < 3 by omega), decide_eq_true (show (j : Int) < 3 by omega)] at P
        clear hu HL
        replace P := Lib.hid P; replace hput := Lib.hid hput; replace hlen := Lib.hid hlen; replace hmin := Lib.hid hmin; replace hmin2 := Lib.hid hmin2
        go_wp2_with fail
        refine Calls.mono P.out ?_
        rintro e w2 ⟨u, rfl, H2⟩
        have hu2 := hput.out u
        rw [← hmin2.out] at hu2
        clear P hput
        replace H2 := Lib.hid H2; replace hu2 := Lib.hid hu2
        go_wp2_with fail
        go_roundg (4 - (j + 1))
        case measure => have := hg.out; omega
        case rel => exact ⟨j + 1, _, by omega, Lib.hid rfl, by go_num, by rw [hmin2.out]; rfl, hu2, H2⟩
      · have hj3 : j = 3 := by omega
        subst hj3
        simp only [hlen, if_neg (show ¬ (((min 3 3 : Nat) : Int) < 3) by omega), decide_eq_false (show ¬ (((min 3 3 : Nat) : Int) < 3) by omega)] at P
        clear HL
        replace P := Lib.hid P; replace hlen := Lib.hid hlen
        go_wp2_with fail
        refine Calls.mono P.out ?_
        rintro e w2 ⟨u, rfl, H2⟩
        clear P
        replace H2 := Lib.hid H2
        go_wp2_with fail
        go_roundg 0
        case measure => have := hg.out; omega
        case rel => exact ⟨4, l, by omega, Lib.hid rfl, rfl, rfl, hu, H2⟩
    · obtain rfl : j = 4 := by omega
      have P1 := got_st 6 (by simp) (by simp) HL.out
      rw [works_got] at P1
      simp only at P1
      have hu3 : wU l = [(0, 0, 0), (1, 0, 0), (2, 0, 0)] := hu.out
      clear hu hlen HL
      replace P1 := Lib.hid P1; replace hu3 := Lib.hid hu3
      go_wp2_with fail
      refine Calls.mono P1.out ?_
      rintro e w2 ⟨rfl, H2⟩
      have P2 := window_st (by decide) H2
      rw [show x0.s = 3 from rfl] at P2
      clear P1
      replace H2 := Lib.hid H2; replace P2 := Lib.hid P2
      go_wp2_with fail
      refine Calls.mono (P2.out) ?_
      rintro e w3 ⟨rfl, hb3⟩
      have z3 := Below.size hb3; try simp only [World.size_alloc, World.size_setCell, World.size_drew] at z3
      have H3 := H2.out.thru hb3
      have P3 := trip_st (by decide) H3
      clear H2 P2
      replace H3 := Lib.hid H3; replace P3 := Lib.hid P3
      go_wp2_with fail
      refine Calls.mono (P3.out) ?_
      rintro e w4 ⟨rfl, hb4⟩
      have z4 := Below.size hb4; try simp only [World.size_alloc, World.size_setCell, World.size_drew] at z4
      have H4 := H3.out.thru hb4
      have P4 := owes_st rfl H4
      clear H3 P3
      replace H4 := Lib.hid H4; replace P4 := Lib.hid P4
      go_wp2_with fail
      refine Calls.mono (P4.out) ?_
      rintro e w5 ⟨rfl, hb5⟩
      have z5 := Below.size hb5; try simp only [World.size_alloc, World.size_setCell, World.size_drew] at z5
      have H5 := ((H4.out.thru hb5).alloc (runs wR) 36).arr [1, 0] rfl
      have P5 := took_st hu3.out H5
      clear H4 P4
      replace H5 := Lib.hid H5; replace P5 := Lib.hid P5
      go_wp2_with fail
      refine Calls.mono P5.out ?_
      rintro e w6 ⟨rfl, H6⟩
      have P6 := pipe_st H6
      clear H5 P5
      replace H6 := Lib.hid H6; replace P6 := Lib.hid P6
      go_wp2_with fail
      refine Calls.mono (P6.out) ?_
      rintro e w7 ⟨rfl, hb7⟩
      have z7 := Below.size hb7; try simp only [World.size_alloc, World.size_setCell, World.size_drew] at z7
      have H7 := H6.out.thru hb7
      have P7 := window_st (by decide) H7
      rw [show x1.s = 6 from rfl] at P7
      clear H6 P6
      replace H7 := Lib.hid H7; replace P7 := Lib.hid P7
      go_wp2_with fail
      refine Calls.mono (P7.out) ?_
      rintro e w8 ⟨rfl, hb8⟩
      have z8 := Below.size hb8; try simp only [World.size_alloc, World.size_setCell, World.size_drew] at z8
      have H8 := Lib.hid (H7.out.thru hb8)
      go_wp2_with fail
      go_ret
      exact Ret.mk rfl H8.out.below
end Go.Proofs.Ytibidmenpoiacaa.Ccid
