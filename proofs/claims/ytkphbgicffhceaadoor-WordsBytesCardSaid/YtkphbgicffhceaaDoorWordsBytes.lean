/- The walk of the statement WordsBytes. -/
import Derived.Test.YtkphbgicffhceaaDoorWordWorks
import Derived.Test.YtkphbgicffhceaaDoorFits
namespace Go.Proofs.YtkphbgicffhceaaDoor.Words
set_option linter.unusedSimpArgs false
set_option linter.unusedVariables false
open Go Go.RowKit Go.Proofs.YtkphbgicffhceaaDoor
attribute [local irreducible] Calls

set_option maxRecDepth 100000 in
set_option maxHeartbeats 1000000 in
theorem bytes_walk (a0 : ByteArray) (w0 : a0.size ≤ maxLen) (a1 : ByteArray) (w1' : a1.size ≤ maxLen) (a2 : Int) (w2' : (Lit.int .i64 a2).wf = true) (w : World) (htab : Lib.TabIs Tryd.prog w "internal/strconv.uint64pow10" .u64 Lib.pow10Tab) :
    Calls Tryd.prog 5 #[.string a0, .string a1, .int .i64 a2] w (Ret w (.bool true)) := by
  unfold maxLen at w0 w1'
  clear htab w2'
  go_enter Tryd.func5, Tryd.ntmps5
  go_wp2_with fail
  refine Calls.mono (works_law _) ?_
  rintro e w1 ⟨rfl, hb1⟩
  have z1 := Below.size hb1; try simp only [World.size_alloc, World.size_setCell, World.size_drew] at z1
  by_cases h0 : 1000 < a0.size
  · have q : decide ((1000 : Int) < (a0.size : Int)) = true := decide_eq_true (by omega)
    go_wp2_with fail
    go_ret
    exact Ret.mk rfl (by repeat (first | with_reducible exact Below.refl _ _ | (with_reducible refine Below.al ?_) | (with_reducible refine Below.drew ?_) | (with_reducible refine Below.set ?_ (by first | (simp; done) | omega | (simp; omega))) | (with_reducible refine Below.thru ?_ (by assumption)) | (with_reducible refine Below.chg ?_ (by assumption) (by first | (simp; done) | omega | (simp; omega)))))
  · have q : decide ((1000 : Int) < (a0.size : Int)) = false := decide_eq_false (by omega)
    by_cases h1 : 1000 < a1.size
    · have q2 : decide ((1000 : Int) < (a1.size : Int)) = true := decide_eq_true (by omega)
      go_wp2_with fail
      go_ret
      exact Ret.mk rfl (by repeat (first | with_reducible exact Below.refl _ _ | (with_reducible refine Below.al ?_) | (with_reducible refine Below.drew ?_) | (with_reducible refine Below.set ?_ (by first | (simp; done) | omega | (simp; omega))) | (with_reducible refine Below.thru ?_ (by assumption)) | (with_reducible refine Below.chg ?_ (by assumption) (by first | (simp; done) | omega | (simp; omega)))))
    · have q2 : decide ((1000 : Int) < (a1.size : Int)) = false := decide_eq_false (by omega)
      have P1 := fun w => bytes_any a1 (by omega) w
      have P2 := fun w => rbytes_any a1 (by omega) w
      have P3 := fun w => hex_any a0 (by omega) w
      have P4 := fun w => rhex_any a0 (by omega) w
      have PS := fun w => side_any a1 w
      unfold RB at P2
      obtain ⟨l, hl⟩ : ∃ l, l = a1.data.toList := ⟨_, rfl⟩
      rw [← hl] at P1 P2 PS
      obtain ⟨r, ok, hv⟩ : ∃ r ok, bytesV l = (r, ok) := ⟨_, _, rfl⟩
      rw [hv] at P1 P2
      simp only at P1 P2
      have hok : ok = false → strL r = ⟨#[]⟩ := by
        intro h
        subst h
        unfold bytesV at hv
        split at hv
        · cases (Prod.mk.inj hv).2
        · split at hv
          · rw [← (Prod.mk.inj hv).1]; rfl
          · obtain ⟨h1, h2⟩ := Prod.mk.inj hv
            rw [← h1]
            cases hb : bytesF l with
            | none => rfl
            | some x => rw [hb] at h2; cases h2
      clear hv
      generalize strL r = rs at *
      generalize strL (hexS a0.data.toList) = hx at *
      have kx : (hx.toList == hx.toList) = true := by simp
      have kx' : decide (hx = hx) = true := by simp
      have kr : (rs.toList == rs.toList) = true := by simp
      have kr' : decide (rs = rs) = true := by simp
      replace P1 := Lib.hid P1; replace P2 := Lib.hid P2; replace P3 := Lib.hid P3; replace P4 := Lib.hid P4; replace PS := Lib.hid PS; replace hl := Lib.hid hl
      go_wp2_with fail
      refine Calls.mono (P1.out _) ?_
      rintro e w2 ⟨rfl, hb2⟩
      have z2 := Below.size hb2; try simp only [World.size_alloc, World.size_setCell, World.size_drew] at z2
      clear P1
      go_wp2_with fail
      refine Calls.mono (P2.out _) ?_
      rintro e w3 ⟨t, ok2, rfl, hb3, rfl, ht⟩
      have z3 := hb3.size
      clear P2
      cases ok2 with
      | true =>
        obtain rfl : t = rs := ht rfl
        clear ht hok
        replace PS := PS.out
        by_cases la : l = [97]
        · obtain rfl : a1 = ⟨#[97]⟩ := strL_inj (by rw [← hl.out]; exact la)
          rw [la, show (if ([97] : List UInt8) = [98] then (1 : Int) else 0) = 0 from rfl, show decide (([97] : List UInt8) = [97] ∨ ([97] : List UInt8) = [98]) = true from rfl] at PS
          clear la hl
          replace PS := Lib.hid PS
          by_cases hs0 : a2 = 0
          · subst hs0
            have P5 := fun w => name_any 0 w
            rw [show strL (nameL 0) = ⟨#[97]⟩ from rfl] at P5
            replace P5 := Lib.hid P5
            go_wp2_with fail
            refine Calls.mono (PS.out _) ?_
            rintro e w4 ⟨rfl, hb4⟩
            have z4 := Below.size hb4; try simp only [World.size_alloc, World.size_setCell, World.size_drew] at z4
            go_wp2_with fail
            refine Calls.mono (P3.out _) ?_
            rintro e w5 ⟨rfl, hb5⟩
            have z5 := Below.size hb5; try simp only [World.size_alloc, World.size_setCell, World.size_drew] at z5
            go_wp2_with fail
            refine Calls.mono (P4.out _) ?_
            rintro e w6 ⟨rfl, hb6⟩
            have z6 := Below.size hb6; try simp only [World.size_alloc, World.size_setCell, World.size_drew] at z6
            go_wp2_with fail
            refine Calls.mono (P5.out _) ?_
            rintro e w7 ⟨rfl, hb7⟩
            have z7 := Below.size hb7; try simp only [World.size_alloc, World.size_setCell, World.size_drew] at z7
            go_wp2_with fail
            go_ret
            exact Ret.mk rfl (by repeat (first | with_reducible exact Below.refl _ _ | (with_reducible refine Below.al ?_) | (with_reducible refine Below.drew ?_) | (with_reducible refine Below.set ?_ (by first | (simp; done) | omega | (simp; omega))) | (with_reducible refine Below.thru ?_ (by assumption)) | (with_reducible refine Below.chg ?_ (by assumption) (by first | (simp; done) | omega | (simp; omega)))))
          · by_cases hs1 : a2 = 1
            · subst hs1
              have P5 := fun w => name_any 1 w
              rw [show strL (nameL 1) = ⟨#[98]⟩ from rfl] at P5
              replace P5 := Lib.hid P5
              clear hs0
              go_wp2_with fail
              refine Calls.mono (PS.out _) ?_
              rintro e w4 ⟨rfl, hb4⟩
              have z4 := Below.size hb4; try simp only [World.size_alloc, World.size_setCell, World.size_drew] at z4
              go_wp2_with fail
              refine Calls.mono (P3.out _) ?_
              rintro e w5 ⟨rfl, hb5⟩
              have z5 := Below.size hb5; try simp only [World.size_alloc, World.size_setCell, World.size_drew] at z5
              go_wp2_with fail
              refine Calls.mono (P4.out _) ?_
              rintro e w6 ⟨rfl, hb6⟩
              have z6 := Below.size hb6; try simp only [World.size_alloc, World.size_setCell, World.size_drew] at z6
              go_wp2_with fail
              refine Calls.mono (P5.out _) ?_
              rintro e w7 ⟨rfl, hb7⟩
              have z7 := Below.size hb7; try simp only [World.size_alloc, World.size_setCell, World.size_drew] at z7
              go_wp2_with fail
              go_ret
              exact Ret.mk rfl (by repeat (first | with_reducible exact Below.refl _ _ | (with_reducible refine Below.al ?_) | (with_reducible refine Below.drew ?_) | (with_reducible refine Below.set ?_ (by first | (simp; done) | omega | (simp; omega))) | (with_reducible refine Below.thru ?_ (by assumption)) | (with_reducible refine Below.chg ?_ (by assumption) (by first | (simp; done) | omega | (simp; omega)))))
            · have P5 := fun w => name_any a2 w
              rw [show strL (nameL a2) = ⟨#[63]⟩ by unfold nameL; rw [if_neg hs0, if_neg hs1]; rfl] at P5
              have k0 : (a2 == 0) = false := by simp; omega
              have k1 : (a2 == 1) = false := by simp; omega
              clear hs0 hs1
              replace P5 := Lib.hid P5
              go_wp2_with fail
              refine Calls.mono (PS.out _) ?_
              rintro e w4 ⟨rfl, hb4⟩
              have z4 := Below.size hb4; try simp only [World.size_alloc, World.size_setCell, World.size_drew] at z4
              go_wp2_with fail
              refine Calls.mono (P3.out _) ?_
              rintro e w5 ⟨rfl, hb5⟩
              have z5 := Below.size hb5; try simp only [World.size_alloc, World.size_setCell, World.size_drew] at z5
              go_wp2_with fail
              refine Calls.mono (P4.out _) ?_
              rintro e w6 ⟨rfl, hb6⟩
              have z6 := Below.size hb6; try simp only [World.size_alloc, World.size_setCell, World.size_drew] at z6
              go_wp2_with fail
              refine Calls.mono (P5.out _) ?_
              rintro e w7 ⟨rfl, hb7⟩
              have z7 := Below.size hb7; try simp only [World.size_alloc, World.size_setCell, World.size_drew] at z7
              go_wp2_with fail
              go_ret
              exact Ret.mk rfl (by repeat (first | with_reducible exact Below.refl _ _ | (with_reducible refine Below.al ?_) | (with_reducible refine Below.drew ?_) | (with_reducible refine Below.set ?_ (by first | (simp; done) | omega | (simp; omega))) | (with_reducible refine Below.thru ?_ (by assumption)) | (with_reducible refine Below.chg ?_ (by assumption) (by first | (simp; done) | omega | (simp; omega)))))
        · by_cases lb : l = [98]
          · obtain rfl : a1 = ⟨#[98]⟩ := strL_inj (by rw [← hl.out]; exact lb)
            rw [lb, show (if ([98] : List UInt8) = [98] then (1 : Int) else 0) = 1 from rfl, show decide (([98] : List UInt8) = [97] ∨ ([98] : List UInt8) = [98]) = true from rfl] at PS
            clear la lb hl
            replace PS := Lib.hid PS
            by_cases hs0 : a2 = 0
            · subst hs0
              have P5 := fun w => name_any 0 w
              rw [show strL (nameL 0) = ⟨#[97]⟩ from rfl] at P5
              replace P5 := Lib.hid P5
              go_wp2_with fail
              refine Calls.mono (PS.out _) ?_
              rintro e w4 ⟨rfl, hb4⟩
              have z4 := Below.size hb4; try simp only [World.size_alloc, World.size_setCell, World.size_drew] at z4
              go_wp2_with fail
              refine Calls.mono (P3.out _) ?_
              rintro e w5 ⟨rfl, hb5⟩
              have z5 := Below.size hb5; try simp only [World.size_alloc, World.size_setCell, World.size_drew] at z5
              go_wp2_with fail
              refine Calls.mono (P4.out _) ?_
              rintro e w6 ⟨rfl, hb6⟩
              have z6 := Below.size hb6; try simp only [World.size_alloc, World.size_setCell, World.size_drew] at z6
              go_wp2_with fail
              refine Calls.mono (P5.out _) ?_
              rintro e w7 ⟨rfl, hb7⟩
              have z7 := Below.size hb7; try simp only [World.size_alloc, World.size_setCell, World.size_drew] at z7
              go_wp2_with fail
              go_ret
              exact Ret.mk rfl (by repeat (first | with_reducible exact Below.refl _ _ | (with_reducible refine Below.al ?_) | (with_reducible refine Below.drew ?_) | (with_reducible refine Below.set ?_ (by first | (simp; done) | omega | (simp; omega))) | (with_reducible refine Below.thru ?_ (by assumption)) | (with_reducible refine Below.chg ?_ (by assumption) (by first | (simp; done) | omega | (simp; omega)))))
            · by_cases hs1 : a2 = 1
              · subst hs1
                have P5 := fun w => name_any 1 w
                rw [show strL (nameL 1) = ⟨#[98]⟩ from rfl] at P5
                replace P5 := Lib.hid P5
                clear hs0
                go_wp2_with fail
                refine Calls.mono (PS.out _) ?_
                rintro e w4 ⟨rfl, hb4⟩
                have z4 := Below.size hb4; try simp only [World.size_alloc, World.size_setCell, World.size_drew] at z4
                go_wp2_with fail
                refine Calls.mono (P3.out _) ?_
                rintro e w5 ⟨rfl, hb5⟩
                have z5 := Below.size hb5; try simp only [World.size_alloc, World.size_setCell, World.size_drew] at z5
                go_wp2_with fail
                refine Calls.mono (P4.out _) ?_
                rintro e w6 ⟨rfl, hb6⟩
                have z6 := Below.size hb6; try simp only [World.size_alloc, World.size_setCell, World.size_drew] at z6
                go_wp2_with fail
                refine Calls.mono (P5.out _) ?_
                rintro e w7 ⟨rfl, hb7⟩
                have z7 := Below.size hb7; try simp only [World.size_alloc, World.size_setCell, World.size_drew] at z7
                go_wp2_with fail
                go_ret
                exact Ret.mk rfl (by repeat (first | with_reducible exact Below.refl _ _ | (with_reducible refine Below.al ?_) | (with_reducible refine Below.drew ?_) | (with_reducible refine Below.set ?_ (by first | (simp; done) | omega | (simp; omega))) | (with_reducible refine Below.thru ?_ (by assumption)) | (with_reducible refine Below.chg ?_ (by assumption) (by first | (simp; done) | omega | (simp; omega)))))
              · have P5 := fun w => name_any a2 w
                rw [show strL (nameL a2) = ⟨#[63]⟩ by unfold nameL; rw [if_neg hs0, if_neg hs1]; rfl] at P5
                have k0 : (a2 == 0) = false := by simp; omega
                have k1 : (a2 == 1) = false := by simp; omega
                clear hs0 hs1
                replace P5 := Lib.hid P5
                go_wp2_with fail
                refine Calls.mono (PS.out _) ?_
                rintro e w4 ⟨rfl, hb4⟩
                have z4 := Below.size hb4; try simp only [World.size_alloc, World.size_setCell, World.size_drew] at z4
                go_wp2_with fail
                refine Calls.mono (P3.out _) ?_
                rintro e w5 ⟨rfl, hb5⟩
                have z5 := Below.size hb5; try simp only [World.size_alloc, World.size_setCell, World.size_drew] at z5
                go_wp2_with fail
                refine Calls.mono (P4.out _) ?_
                rintro e w6 ⟨rfl, hb6⟩
                have z6 := Below.size hb6; try simp only [World.size_alloc, World.size_setCell, World.size_drew] at z6
                go_wp2_with fail
                refine Calls.mono (P5.out _) ?_
                rintro e w7 ⟨rfl, hb7⟩
                have z7 := Below.size hb7; try simp only [World.size_alloc, World.size_setCell, World.size_drew] at z7
                go_wp2_with fail
                go_ret
                exact Ret.mk rfl (by repeat (first | with_reducible exact Below.refl _ _ | (with_reducible refine Below.al ?_) | (with_reducible refine Below.drew ?_) | (with_reducible refine Below.set ?_ (by first | (simp; done) | omega | (simp; omega))) | (with_reducible refine Below.thru ?_ (by assumption)) | (with_reducible refine Below.chg ?_ (by assumption) (by first | (simp; done) | omega | (simp; omega)))))
          · have ka : decide (a1 = ⟨#[97]⟩) = false := decide_eq_false (fun e => la (by rw [hl.out, e]))
            have kb : decide (a1 = ⟨#[98]⟩) = false := decide_eq_false (fun e => lb (by rw [hl.out, e]))
            have ka2 : (a1.toList == [97]) = false := by rw [ByteArray.toList_eq, ← hl.out]; exact beq_eq_false_iff_ne.2 la
            have kb2 : (a1.toList == [98]) = false := by rw [ByteArray.toList_eq, ← hl.out]; exact beq_eq_false_iff_ne.2 lb
            rw [if_neg lb, decide_eq_false (fun h => h.elim la lb)] at PS
            clear la lb hl
            replace PS := Lib.hid PS
            by_cases hs0 : a2 = 0
            · subst hs0
              have P5 := fun w => name_any 0 w
              rw [show strL (nameL 0) = ⟨#[97]⟩ from rfl] at P5
              replace P5 := Lib.hid P5
              go_wp2_with fail
              refine Calls.mono (PS.out _) ?_
              rintro e w4 ⟨rfl, hb4⟩
              have z4 := Below.size hb4; try simp only [World.size_alloc, World.size_setCell, World.size_drew] at z4
              go_wp2_with fail
              refine Calls.mono (P3.out _) ?_
              rintro e w5 ⟨rfl, hb5⟩
              have z5 := Below.size hb5; try simp only [World.size_alloc, World.size_setCell, World.size_drew] at z5
              go_wp2_with fail
              refine Calls.mono (P4.out _) ?_
              rintro e w6 ⟨rfl, hb6⟩
              have z6 := Below.size hb6; try simp only [World.size_alloc, World.size_setCell, World.size_drew] at z6
              go_wp2_with fail
              refine Calls.mono (P5.out _) ?_
              rintro e w7 ⟨rfl, hb7⟩
              have z7 := Below.size hb7; try simp only [World.size_alloc, World.size_setCell, World.size_drew] at z7
              go_wp2_with fail
              go_ret
              exact Ret.mk rfl (by repeat (first | with_reducible exact Below.refl _ _ | (with_reducible refine Below.al ?_) | (with_reducible refine Below.drew ?_) | (with_reducible refine Below.set ?_ (by first | (simp; done) | omega | (simp; omega))) | (with_reducible refine Below.thru ?_ (by assumption)) | (with_reducible refine Below.chg ?_ (by assumption) (by first | (simp; done) | omega | (simp; omega)))))
            · by_cases hs1 : a2 = 1
              · subst hs1
                have P5 := fun w => name_any 1 w
                rw [show strL (nameL 1) = ⟨#[98]⟩ from rfl] at P5
                replace P5 := Lib.hid P5
                clear hs0
                go_wp2_with fail
                refine Calls.mono (PS.out _) ?_
                rintro e w4 ⟨rfl, hb4⟩
                have z4 := Below.size hb4; try simp only [World.size_alloc, World.size_setCell, World.size_drew] at z4
                go_wp2_with fail
                refine Calls.mono (P3.out _) ?_
                rintro e w5 ⟨rfl, hb5⟩
                have z5 := Below.size hb5; try simp only [World.size_alloc, World.size_setCell, World.size_drew] at z5
                go_wp2_with fail
                refine Calls.mono (P4.out _) ?_
                rintro e w6 ⟨rfl, hb6⟩
                have z6 := Below.size hb6; try simp only [World.size_alloc, World.size_setCell, World.size_drew] at z6
                go_wp2_with fail
                refine Calls.mono (P5.out _) ?_
                rintro e w7 ⟨rfl, hb7⟩
                have z7 := Below.size hb7; try simp only [World.size_alloc, World.size_setCell, World.size_drew] at z7
                go_wp2_with fail
                go_ret
                exact Ret.mk rfl (by repeat (first | with_reducible exact Below.refl _ _ | (with_reducible refine Below.al ?_) | (with_reducible refine Below.drew ?_) | (with_reducible refine Below.set ?_ (by first | (simp; done) | omega | (simp; omega))) | (with_reducible refine Below.thru ?_ (by assumption)) | (with_reducible refine Below.chg ?_ (by assumption) (by first | (simp; done) | omega | (simp; omega)))))
              · have P5 := fun w => name_any a2 w
                rw [show strL (nameL a2) = ⟨#[63]⟩ by unfold nameL; rw [if_neg hs0, if_neg hs1]; rfl] at P5
                have k0 : (a2 == 0) = false := by simp; omega
                have k1 : (a2 == 1) = false := by simp; omega
                clear hs0 hs1
                replace P5 := Lib.hid P5
                go_wp2_with fail
                refine Calls.mono (PS.out _) ?_
                rintro e w4 ⟨rfl, hb4⟩
                have z4 := Below.size hb4; try simp only [World.size_alloc, World.size_setCell, World.size_drew] at z4
                go_wp2_with fail
                refine Calls.mono (P3.out _) ?_
                rintro e w5 ⟨rfl, hb5⟩
                have z5 := Below.size hb5; try simp only [World.size_alloc, World.size_setCell, World.size_drew] at z5
                go_wp2_with fail
                refine Calls.mono (P4.out _) ?_
                rintro e w6 ⟨rfl, hb6⟩
                have z6 := Below.size hb6; try simp only [World.size_alloc, World.size_setCell, World.size_drew] at z6
                go_wp2_with fail
                refine Calls.mono (P5.out _) ?_
                rintro e w7 ⟨rfl, hb7⟩
                have z7 := Below.size hb7; try simp only [World.size_alloc, World.size_setCell, World.size_drew] at z7
                go_wp2_with fail
                go_ret
                exact Ret.mk rfl (by repeat (first | with_reducible exact Below.refl _ _ | (with_reducible refine Below.al ?_) | (with_reducible refine Below.drew ?_) | (with_reducible refine Below.set ?_ (by first | (simp; done) | omega | (simp; omega))) | (with_reducible refine Below.thru ?_ (by assumption)) | (with_reducible refine Below.chg ?_ (by assumption) (by first | (simp; done) | omega | (simp; omega)))))
      | false =>
        obtain rfl : rs = ⟨#[]⟩ := hok rfl
        clear ht hok
        replace PS := PS.out
        by_cases la : l = [97]
        · obtain rfl : a1 = ⟨#[97]⟩ := strL_inj (by rw [← hl.out]; exact la)
          rw [la, show (if ([97] : List UInt8) = [98] then (1 : Int) else 0) = 0 from rfl, show decide (([97] : List UInt8) = [97] ∨ ([97] : List UInt8) = [98]) = true from rfl] at PS
          clear la hl
          replace PS := Lib.hid PS
          by_cases hs0 : a2 = 0
          · subst hs0
            have P5 := fun w => name_any 0 w
            rw [show strL (nameL 0) = ⟨#[97]⟩ from rfl] at P5
            replace P5 := Lib.hid P5
            go_wp2_with fail
            refine Calls.mono (PS.out _) ?_
            rintro e w4 ⟨rfl, hb4⟩
            have z4 := Below.size hb4; try simp only [World.size_alloc, World.size_setCell, World.size_drew] at z4
            go_wp2_with fail
            refine Calls.mono (P3.out _) ?_
            rintro e w5 ⟨rfl, hb5⟩
            have z5 := Below.size hb5; try simp only [World.size_alloc, World.size_setCell, World.size_drew] at z5
            go_wp2_with fail
            refine Calls.mono (P4.out _) ?_
            rintro e w6 ⟨rfl, hb6⟩
            have z6 := Below.size hb6; try simp only [World.size_alloc, World.size_setCell, World.size_drew] at z6
            go_wp2_with fail
            refine Calls.mono (P5.out _) ?_
            rintro e w7 ⟨rfl, hb7⟩
            have z7 := Below.size hb7; try simp only [World.size_alloc, World.size_setCell, World.size_drew] at z7
            go_wp2_with fail
            go_ret
            exact Ret.mk rfl (by repeat (first | with_reducible exact Below.refl _ _ | (with_reducible refine Below.al ?_) | (with_reducible refine Below.drew ?_) | (with_reducible refine Below.set ?_ (by first | (simp; done) | omega | (simp; omega))) | (with_reducible refine Below.thru ?_ (by assumption)) | (with_reducible refine Below.chg ?_ (by assumption) (by first | (simp; done) | omega | (simp; omega)))))
          · by_cases hs1 : a2 = 1
            · subst hs1
              have P5 := fun w => name_any 1 w
              rw [show strL (nameL 1) = ⟨#[98]⟩ from rfl] at P5
              replace P5 := Lib.hid P5
              clear hs0
              go_wp2_with fail
              refine Calls.mono (PS.out _) ?_
              rintro e w4 ⟨rfl, hb4⟩
              have z4 := Below.size hb4; try simp only [World.size_alloc, World.size_setCell, World.size_drew] at z4
              go_wp2_with fail
              refine Calls.mono (P3.out _) ?_
              rintro e w5 ⟨rfl, hb5⟩
              have z5 := Below.size hb5; try simp only [World.size_alloc, World.size_setCell, World.size_drew] at z5
              go_wp2_with fail
              refine Calls.mono (P4.out _) ?_
              rintro e w6 ⟨rfl, hb6⟩
              have z6 := Below.size hb6; try simp only [World.size_alloc, World.size_setCell, World.size_drew] at z6
              go_wp2_with fail
              refine Calls.mono (P5.out _) ?_
              rintro e w7 ⟨rfl, hb7⟩
              have z7 := Below.size hb7; try simp only [World.size_alloc, World.size_setCell, World.size_drew] at z7
              go_wp2_with fail
              go_ret
              exact Ret.mk rfl (by repeat (first | with_reducible exact Below.refl _ _ | (with_reducible refine Below.al ?_) | (with_reducible refine Below.drew ?_) | (with_reducible refine Below.set ?_ (by first | (simp; done) | omega | (simp; omega))) | (with_reducible refine Below.thru ?_ (by assumption)) | (with_reducible refine Below.chg ?_ (by assumption) (by first | (simp; done) | omega | (simp; omega)))))
            · have P5 := fun w => name_any a2 w
              rw [show strL (nameL a2) = ⟨#[63]⟩ by unfold nameL; rw [if_neg hs0, if_neg hs1]; rfl] at P5
              have k0 : (a2 == 0) = false := by simp; omega
              have k1 : (a2 == 1) = false := by simp; omega
              clear hs0 hs1
              replace P5 := Lib.hid P5
              go_wp2_with fail
              refine Calls.mono (PS.out _) ?_
              rintro e w4 ⟨rfl, hb4⟩
              have z4 := Below.size hb4; try simp only [World.size_alloc, World.size_setCell, World.size_drew] at z4
              go_wp2_with fail
              refine Calls.mono (P3.out _) ?_
              rintro e w5 ⟨rfl, hb5⟩
              have z5 := Below.size hb5; try simp only [World.size_alloc, World.size_setCell, World.size_drew] at z5
              go_wp2_with fail
              refine Calls.mono (P4.out _) ?_
              rintro e w6 ⟨rfl, hb6⟩
              have z6 := Below.size hb6; try simp only [World.size_alloc, World.size_setCell, World.size_drew] at z6
              go_wp2_with fail
              refine Calls.mono (P5.out _) ?_
              rintro e w7 ⟨rfl, hb7⟩
              have z7 := Below.size hb7; try simp only [World.size_alloc, World.size_setCell, World.size_drew] at z7
              go_wp2_with fail
              go_ret
              exact Ret.mk rfl (by repeat (first | with_reducible exact Below.refl _ _ | (with_reducible refine Below.al ?_) | (with_reducible refine Below.drew ?_) | (with_reducible refine Below.set ?_ (by first | (simp; done) | omega | (simp; omega))) | (with_reducible refine Below.thru ?_ (by assumption)) | (with_reducible refine Below.chg ?_ (by assumption) (by first | (simp; done) | omega | (simp; omega)))))
        · by_cases lb : l = [98]
          · obtain rfl : a1 = ⟨#[98]⟩ := strL_inj (by rw [← hl.out]; exact lb)
            rw [lb, show (if ([98] : List UInt8) = [98] then (1 : Int) else 0) = 1 from rfl, show decide (([98] : List UInt8) = [97] ∨ ([98] : List UInt8) = [98]) = true from rfl] at PS
            clear la lb hl
            replace PS := Lib.hid PS
            by_cases hs0 : a2 = 0
            · subst hs0
              have P5 := fun w => name_any 0 w
              rw [show strL (nameL 0) = ⟨#[97]⟩ from rfl] at P5
              replace P5 := Lib.hid P5
              go_wp2_with fail
              refine Calls.mono (PS.out _) ?_
              rintro e w4 ⟨rfl, hb4⟩
              have z4 := Below.size hb4; try simp only [World.size_alloc, World.size_setCell, World.size_drew] at z4
              go_wp2_with fail
              refine Calls.mono (P3.out _) ?_
              rintro e w5 ⟨rfl, hb5⟩
              have z5 := Below.size hb5; try simp only [World.size_alloc, World.size_setCell, World.size_drew] at z5
              go_wp2_with fail
              refine Calls.mono (P4.out _) ?_
              rintro e w6 ⟨rfl, hb6⟩
              have z6 := Below.size hb6; try simp only [World.size_alloc, World.size_setCell, World.size_drew] at z6
              go_wp2_with fail
              refine Calls.mono (P5.out _) ?_
              rintro e w7 ⟨rfl, hb7⟩
              have z7 := Below.size hb7; try simp only [World.size_alloc, World.size_setCell, World.size_drew] at z7
              go_wp2_with fail
              go_ret
              exact Ret.mk rfl (by repeat (first | with_reducible exact Below.refl _ _ | (with_reducible refine Below.al ?_) | (with_reducible refine Below.drew ?_) | (with_reducible refine Below.set ?_ (by first | (simp; done) | omega | (simp; omega))) | (with_reducible refine Below.thru ?_ (by assumption)) | (with_reducible refine Below.chg ?_ (by assumption) (by first | (simp; done) | omega | (simp; omega)))))
            · by_cases hs1 : a2 = 1
              · subst hs1
                have P5 := fun w => name_any 1 w
                rw [show strL (nameL 1) = ⟨#[98]⟩ from rfl] at P5
                replace P5 := Lib.hid P5
                clear hs0
                go_wp2_with fail
                refine Calls.mono (PS.out _) ?_
                rintro e w4 ⟨rfl, hb4⟩
                have z4 := Below.size hb4; try simp only [World.size_alloc, World.size_setCell, World.size_drew] at z4
                go_wp2_with fail
                refine Calls.mono (P3.out _) ?_
                rintro e w5 ⟨rfl, hb5⟩
                have z5 := Below.size hb5; try simp only [World.size_alloc, World.size_setCell, World.size_drew] at z5
                go_wp2_with fail
                refine Calls.mono (P4.out _) ?_
                rintro e w6 ⟨rfl, hb6⟩
                have z6 := Below.size hb6; try simp only [World.size_alloc, World.size_setCell, World.size_drew] at z6
                go_wp2_with fail
                refine Calls.mono (P5.out _) ?_
                rintro e w7 ⟨rfl, hb7⟩
                have z7 := Below.size hb7; try simp only [World.size_alloc, World.size_setCell, World.size_drew] at z7
                go_wp2_with fail
                go_ret
                exact Ret.mk rfl (by repeat (first | with_reducible exact Below.refl _ _ | (with_reducible refine Below.al ?_) | (with_reducible refine Below.drew ?_) | (with_reducible refine Below.set ?_ (by first | (simp; done) | omega | (simp; omega))) | (with_reducible refine Below.thru ?_ (by assumption)) | (with_reducible refine Below.chg ?_ (by assumption) (by first | (simp; done) | omega | (simp; omega)))))
              · have P5 := fun w => name_any a2 w
                rw [show strL (nameL a2) = ⟨#[63]⟩ by unfold nameL; rw [if_neg hs0, if_neg hs1]; rfl] at P5
                have k0 : (a2 == 0) = false := by simp; omega
                have k1 : (a2 == 1) = false := by simp; omega
                clear hs0 hs1
                replace P5 := Lib.hid P5
                go_wp2_with fail
                refine Calls.mono (PS.out _) ?_
                rintro e w4 ⟨rfl, hb4⟩
                have z4 := Below.size hb4; try simp only [World.size_alloc, World.size_setCell, World.size_drew] at z4
                go_wp2_with fail
                refine Calls.mono (P3.out _) ?_
                rintro e w5 ⟨rfl, hb5⟩
                have z5 := Below.size hb5; try simp only [World.size_alloc, World.size_setCell, World.size_drew] at z5
                go_wp2_with fail
                refine Calls.mono (P4.out _) ?_
                rintro e w6 ⟨rfl, hb6⟩
                have z6 := Below.size hb6; try simp only [World.size_alloc, World.size_setCell, World.size_drew] at z6
                go_wp2_with fail
                refine Calls.mono (P5.out _) ?_
                rintro e w7 ⟨rfl, hb7⟩
                have z7 := Below.size hb7; try simp only [World.size_alloc, World.size_setCell, World.size_drew] at z7
                go_wp2_with fail
                go_ret
                exact Ret.mk rfl (by repeat (first | with_reducible exact Below.refl _ _ | (with_reducible refine Below.al ?_) | (with_reducible refine Below.drew ?_) | (with_reducible refine Below.set ?_ (by first | (simp; done) | omega | (simp; omega))) | (with_reducible refine Below.thru ?_ (by assumption)) | (with_reducible refine Below.chg ?_ (by assumption) (by first | (simp; done) | omega | (simp; omega)))))
          · have ka : decide (a1 = ⟨#[97]⟩) = false := decide_eq_false (fun e => la (by rw [hl.out, e]))
            have kb : decide (a1 = ⟨#[98]⟩) = false := decide_eq_false (fun e => lb (by rw [hl.out, e]))
            have ka2 : (a1.toList == [97]) = false := by rw [ByteArray.toList_eq, ← hl.out]; exact beq_eq_false_iff_ne.2 la
            have kb2 : (a1.toList == [98]) = false := by rw [ByteArray.toList_eq, ← hl.out]; exact beq_eq_false_iff_ne.2 lb
            rw [if_neg lb, decide_eq_false (fun h => h.elim la lb)] at PS
            clear la lb hl
            replace PS := Lib.hid PS
            by_cases hs0 : a2 = 0
            · subst hs0
              have P5 := fun w => name_any 0 w
              rw [show strL (nameL 0) = ⟨#[97]⟩ from rfl] at P5
              replace P5 := Lib.hid P5
              go_wp2_with fail
              refine Calls.mono (PS.out _) ?_
              rintro e w4 ⟨rfl, hb4⟩
              have z4 := Below.size hb4; try simp only [World.size_alloc, World.size_setCell, World.size_drew] at z4
              go_wp2_with fail
              refine Calls.mono (P3.out _) ?_
              rintro e w5 ⟨rfl, hb5⟩
              have z5 := Below.size hb5; try simp only [World.size_alloc, World.size_setCell, World.size_drew] at z5
              go_wp2_with fail
              refine Calls.mono (P4.out _) ?_
              rintro e w6 ⟨rfl, hb6⟩
              have z6 := Below.size hb6; try simp only [World.size_alloc, World.size_setCell, World.size_drew] at z6
              go_wp2_with fail
              refine Calls.mono (P5.out _) ?_
              rintro e w7 ⟨rfl, hb7⟩
              have z7 := Below.size hb7; try simp only [World.size_alloc, World.size_setCell, World.size_drew] at z7
              go_wp2_with fail
              go_ret
              exact Ret.mk rfl (by repeat (first | with_reducible exact Below.refl _ _ | (with_reducible refine Below.al ?_) | (with_reducible refine Below.drew ?_) | (with_reducible refine Below.set ?_ (by first | (simp; done) | omega | (simp; omega))) | (with_reducible refine Below.thru ?_ (by assumption)) | (with_reducible refine Below.chg ?_ (by assumption) (by first | (simp; done) | omega | (simp; omega)))))
            · by_cases hs1 : a2 = 1
              · subst hs1
                have P5 := fun w => name_any 1 w
                rw [show strL (nameL 1) = ⟨#[98]⟩ from rfl] at P5
                replace P5 := Lib.hid P5
                clear hs0
                go_wp2_with fail
                refine Calls.mono (PS.out _) ?_
                rintro e w4 ⟨rfl, hb4⟩
                have z4 := Below.size hb4; try simp only [World.size_alloc, World.size_setCell, World.size_drew] at z4
                go_wp2_with fail
                refine Calls.mono (P3.out _) ?_
                rintro e w5 ⟨rfl, hb5⟩
                have z5 := Below.size hb5; try simp only [World.size_alloc, World.size_setCell, World.size_drew] at z5
                go_wp2_with fail
                refine Calls.mono (P4.out _) ?_
                rintro e w6 ⟨rfl, hb6⟩
                have z6 := Below.size hb6; try simp only [World.size_alloc, World.size_setCell, World.size_drew] at z6
                go_wp2_with fail
                refine Calls.mono (P5.out _) ?_
                rintro e w7 ⟨rfl, hb7⟩
                have z7 := Below.size hb7; try simp only [World.size_alloc, World.size_setCell, World.size_drew] at z7
                go_wp2_with fail
                go_ret
                exact Ret.mk rfl (by repeat (first | with_reducible exact Below.refl _ _ | (with_reducible refine Below.al ?_) | (with_reducible refine Below.drew ?_) | (with_reducible refine Below.set ?_ (by first | (simp; done) | omega | (simp; omega))) | (with_reducible refine Below.thru ?_ (by assumption)) | (with_reducible refine Below.chg ?_ (by assumption) (by first | (simp; done) | omega | (simp; omega)))))
              · have P5 := fun w => name_any a2 w
                rw [show strL (nameL a2) = ⟨#[63]⟩ by unfold nameL; rw [if_neg hs0, if_neg hs1]; rfl] at P5
                have k0 : (a2 == 0) = false := by simp; omega
                have k1 : (a2 == 1) = false := by simp; omega
                clear hs0 hs1
                replace P5 := Lib.hid P5
                go_wp2_with fail
                refine Calls.mono (PS.out _) ?_
                rintro e w4 ⟨rfl, hb4⟩
                have z4 := Below.size hb4; try simp only [World.size_alloc, World.size_setCell, World.size_drew] at z4
                go_wp2_with fail
                refine Calls.mono (P3.out _) ?_
                rintro e w5 ⟨rfl, hb5⟩
                have z5 := Below.size hb5; try simp only [World.size_alloc, World.size_setCell, World.size_drew] at z5
                go_wp2_with fail
                refine Calls.mono (P4.out _) ?_
                rintro e w6 ⟨rfl, hb6⟩
                have z6 := Below.size hb6; try simp only [World.size_alloc, World.size_setCell, World.size_drew] at z6
                go_wp2_with fail
                refine Calls.mono (P5.out _) ?_
                rintro e w7 ⟨rfl, hb7⟩
                have z7 := Below.size hb7; try simp only [World.size_alloc, World.size_setCell, World.size_drew] at z7
                go_wp2_with fail
                go_ret
                exact Ret.mk rfl (by repeat (first | with_reducible exact Below.refl _ _ | (with_reducible refine Below.al ?_) | (with_reducible refine Below.drew ?_) | (with_reducible refine Below.set ?_ (by first | (simp; done) | omega | (simp; omega))) | (with_reducible refine Below.thru ?_ (by assumption)) | (with_reducible refine Below.chg ?_ (by assumption) (by first | (simp; done) | omega | (simp; omega)))))
end Go.Proofs.YtkphbgicffhceaaDoor.Words
