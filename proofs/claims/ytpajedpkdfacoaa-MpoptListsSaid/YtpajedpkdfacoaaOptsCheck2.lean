
/- The walks of the package opts, and of its answer: Check. -/
import Derived.Test.YtpajedpkdfacoaaOptsCheck
namespace Go.Proofs.Ytpajedpkdfacoaa.Opts
set_option linter.unusedSimpArgs false
set_option linter.unusedVariables false
open Go Go.RowKit Go.Proofs.Ytpajedpkdfacoaa
attribute [local irreducible] Calls

theorem checkL_bad {l : List El} (h : firstBad l ≠ 0) : checkL l = firstBad l := by unfold checkL; rw [if_pos h]
theorem checkL_mand {l : List El} (h : firstBad l = 0) (hm : mandBad l = true) : checkL l = 4 := by unfold checkL; rw [if_neg (by simpa using h), if_pos hm]
theorem checkL_size {l : List El} (h : firstBad l = 0) (hm : mandBad l = false) : checkL l = if 400 < szL l then 11 else 0 := by unfold checkL; rw [if_neg (by simpa using h), hm]; rfl

set_option maxRecDepth 100000 in
set_option maxHeartbeats 800000 in
theorem check_any (l : List El) (n : Nat) (hl : l.length = n) (hf : Few l) (a : Option Addr) (cap : Nat) (w : World) (h : Rd w a (encs l)) :
    Calls Try.prog 46 #[.slice a n cap] w (Ret w (.int .i64 (checkL l))) := by
  have hn : n ≤ 3000 := by rw [← hl]; exact hf.1
  have PS := fun W hW => sizeL_any l n hl hf a cap W hW
  have hsz := few_take hf n
  rw [List.take_of_length_le (by omega)] at hsz
  replace h := Lib.hid h; replace hl := Lib.hid hl; replace hf := Lib.hid hf; replace PS := Lib.hid PS
  go_enter Try.func46, Try.ntmps46
  go_wp2_with fail
  go_loopg [4, 5, 10] n (fun g _ _ i wr => ∃ (j : Nat), j ≤ n ∧ g = n - j ∧ i = .int .i64 j ∧ Hid (∀ i (hi : i < l.length), i < j → badO l[i] = 0) ∧ Below w.heap.size w wr)
  case atStart => exact ⟨0, by omega, by omega, rfl, Lib.hid (fun i _ h => by omega), (by repeat (first | with_reducible exact Below.refl _ _ | (with_reducible refine Below.al ?_) | (with_reducible refine Below.drew ?_) | (with_reducible refine Below.set ?_ (by first | (simp; done) | omega | (simp; omega))) | (with_reducible refine Below.thru ?_ (by assumption)) | (with_reducible refine Below.chg ?_ (by assumption) (by first | (simp; done) | omega | (simp; omega)))))⟩
  case round =>
    obtain ⟨j, hj, hg, rfl, hno, hbw⟩ := hrel
    by_cases hlt : j < n
    · have hjl : j < l.length := by have := hl.out; omega
      obtain ⟨b, off, rfl, hb, hc⟩ := els_at (h.out.below hbw) hl.out (by omega)
      obtain ⟨e0, e1⟩ := hc j hjl
      have P := right_any l[j] (hf.out.2 l[j] (List.getElem_mem hjl)).2
      have hit : badO l[j] ≠ 0 → checkL l = badO l[j] := fun h => by
        have := firstBad_at hjl h hno.out
        rw [checkL_bad (by rw [this]; exact h), this]
      have hnx : badO l[j] = 0 → ∀ i (hi : i < l.length), i < j + 1 → badO l[i] = 0 := fun h i hi h1 => by
        by_cases e : i = j
        · subst e; exact h
        · exact hno.out i hi (by omega)
      clear hc hno
      generalize l[j] = y at *
      unfold val at P
      obtain ⟨z, hz⟩ : ∃ z, badO y = z := ⟨_, rfl⟩
      rw [hz] at P hit hnx
      clear hz
      by_cases hz0 : z = 0
      · replace hnx := hnx hz0
        subst hz0
        clear hit
        replace hnx := Lib.hid hnx; replace P := Lib.hid P
        go_wp2_with fail
        refine Calls.mono (P.out _) ?_
        rintro e w1 ⟨rfl, hb1⟩
        have z1 := Below.size hb1; try simp only [World.size_alloc, World.size_setCell, World.size_drew] at z1
        go_wp2_with fail
        go_roundg (n - (j + 1))
        case measure => omega
        case rel => exact ⟨j + 1, by omega, rfl, by go_num, hnx, (by repeat (first | with_reducible exact Below.refl _ _ | (with_reducible refine Below.al ?_) | (with_reducible refine Below.drew ?_) | (with_reducible refine Below.set ?_ (by first | (simp; done) | omega | (simp; omega))) | (with_reducible refine Below.thru ?_ (by assumption)) | (with_reducible refine Below.chg ?_ (by assumption) (by first | (simp; done) | omega | (simp; omega)))))⟩
      · have q : (z != 0) = true := by simp [hz0]
        replace hit := hit hz0
        clear hnx hz0
        replace hit := Lib.hid hit; replace P := Lib.hid P
        go_wp2_with fail
        refine Calls.mono (P.out _) ?_
        rintro e w1 ⟨rfl, hb1⟩
        have z1 := Below.size hb1; try simp only [World.size_alloc, World.size_setCell, World.size_drew] at z1
        go_wp2_with fail
        go_ret
        exact Ret.mk (by rw [hit.out]; rfl) (by repeat (first | with_reducible exact Below.refl _ _ | (with_reducible refine Below.al ?_) | (with_reducible refine Below.drew ?_) | (with_reducible refine Below.set ?_ (by first | (simp; done) | omega | (simp; omega))) | (with_reducible refine Below.thru ?_ (by assumption)) | (with_reducible refine Below.chg ?_ (by assumption) (by first | (simp; done) | omega | (simp; omega)))))
    · obtain rfl : j = n := by omega
      have hfb := firstBad_no fun i hi => hno.out i hi (by have := hl.out; omega)
      clear hno
      obtain ⟨wo, hwo⟩ : ∃ wo : World, wo = wr := ⟨_, rfl⟩
      subst hwo
      replace hfb := Lib.hid hfb
      go_wp2_with fail
      go_loopg [6, 7, 22] j (fun g _ _ i wr => ∃ (k : Nat), k ≤ j ∧ g = j - k ∧ i = .int .i64 k ∧ Hid (∀ i, i < l.length → i < k → mandAt l i = false) ∧ Below w.heap.size w wr)
      case atStart => exact ⟨0, by omega, by omega, rfl, Lib.hid (fun i _ h => by omega), (by repeat (first | with_reducible exact Below.refl _ _ | (with_reducible refine Below.al ?_) | (with_reducible refine Below.drew ?_) | (with_reducible refine Below.set ?_ (by first | (simp; done) | omega | (simp; omega))) | (with_reducible refine Below.thru ?_ (by assumption)) | (with_reducible refine Below.chg ?_ (by assumption) (by first | (simp; done) | omega | (simp; omega)))))⟩
      case round =>
        obtain ⟨k, hk, hg2, rfl, hno, hbw2⟩ := hrel
        clear hg hlt hj
        by_cases hlt : k < j
        · have hkl : k < l.length := by have := hl.out; omega
          obtain ⟨b, off, rfl, hb, hc⟩ := els_at (h.out.below hbw2) hl.out (by omega)
          obtain ⟨e0, e1⟩ := hc k hkl
          have hit : mandAt l k = true → checkL l = 4 := fun h => checkL_mand hfb.out (mandBad_at hkl h)
          have hnx : mandAt l k = false → ∀ i, i < l.length → i < k + 1 → mandAt l i = false := fun h i hi h1 => by
            by_cases e : i = k
            · subst e; exact h
            · exact hno.out i hi (by omega)
          by_cases hlast : k + 1 = j
          · rw [mand_last hkl (by have := hl.out; omega)] at hit hnx
            clear hc hno
            generalize l[k] = y at *
            obtain ⟨kd, v⟩ := y
            simp only at e0 e1 hit hnx
            have r1 : (((k : Int) + 1) == (j : Int)) = true := by simp; omega
            by_cases hk1 : kd = 1
            · subst hk1
              replace hit := Lib.hid (hit rfl)
              clear hnx
              go_wp2_with fail
              go_ret
              exact Ret.mk (by rw [hit.out]; rfl) (by repeat (first | with_reducible exact Below.refl _ _ | (with_reducible refine Below.al ?_) | (with_reducible refine Below.drew ?_) | (with_reducible refine Below.set ?_ (by first | (simp; done) | omega | (simp; omega))) | (with_reducible refine Below.thru ?_ (by assumption)) | (with_reducible refine Below.chg ?_ (by assumption) (by first | (simp; done) | omega | (simp; omega)))))
            · have q : (kd == 1) = false := by simp [hk1]
              replace hnx := Lib.hid (hnx (decide_eq_false hk1))
              clear hit hk1
              go_wp2_with fail
              go_roundg (j - (k + 1))
              case measure => omega
              case rel => exact ⟨k + 1, by omega, rfl, by go_num, hnx, (by repeat (first | with_reducible exact Below.refl _ _ | (with_reducible refine Below.al ?_) | (with_reducible refine Below.drew ?_) | (with_reducible refine Below.set ?_ (by first | (simp; done) | omega | (simp; omega))) | (with_reducible refine Below.thru ?_ (by assumption)) | (with_reducible refine Below.chg ?_ (by assumption) (by first | (simp; done) | omega | (simp; omega)))))⟩
          · have hkl2 : k + 1 < l.length := by have := hl.out; omega
            obtain ⟨e2, e3⟩ := hc (k + 1) hkl2
            rw [mand_next hkl2] at hit hnx
            clear hc hno
            generalize l[k + 1] = y2 at *
            generalize l[k] = y at *
            obtain ⟨kd, v⟩ := y
            obtain ⟨kd2, v2⟩ := y2
            simp only at e0 e1 e2 e3 hit hnx
            have r1 : (((k : Int) + 1) == (j : Int)) = false := by simp; omega
            by_cases hk1 : kd = 1
            · subst hk1
              by_cases hk2 : kd2 = 1
              · subst hk2
                replace hit := Lib.hid (hit rfl)
                clear hnx
                go_wp2_with fail
                go_ret
                exact Ret.mk (by rw [hit.out]; rfl) (by repeat (first | with_reducible exact Below.refl _ _ | (with_reducible refine Below.al ?_) | (with_reducible refine Below.drew ?_) | (with_reducible refine Below.set ?_ (by first | (simp; done) | omega | (simp; omega))) | (with_reducible refine Below.thru ?_ (by assumption)) | (with_reducible refine Below.chg ?_ (by assumption) (by first | (simp; done) | omega | (simp; omega)))))
              · have q : (kd2 == 1) = false := by simp [hk2]
                replace hnx := Lib.hid (hnx (by simp [hk2]))
                clear hit hk2
                go_wp2_with fail
                go_roundg (j - (k + 1))
                case measure => omega
                case rel => exact ⟨k + 1, by omega, rfl, by go_num, hnx, (by repeat (first | with_reducible exact Below.refl _ _ | (with_reducible refine Below.al ?_) | (with_reducible refine Below.drew ?_) | (with_reducible refine Below.set ?_ (by first | (simp; done) | omega | (simp; omega))) | (with_reducible refine Below.thru ?_ (by assumption)) | (with_reducible refine Below.chg ?_ (by assumption) (by first | (simp; done) | omega | (simp; omega)))))⟩
            · have q : (kd == 1) = false := by simp [hk1]
              replace hnx := Lib.hid (hnx (by simp [hk1]))
              clear hit hk1
              go_wp2_with fail
              go_roundg (j - (k + 1))
              case measure => omega
              case rel => exact ⟨k + 1, by omega, rfl, by go_num, hnx, (by repeat (first | with_reducible exact Below.refl _ _ | (with_reducible refine Below.al ?_) | (with_reducible refine Below.drew ?_) | (with_reducible refine Below.set ?_ (by first | (simp; done) | omega | (simp; omega))) | (with_reducible refine Below.thru ?_ (by assumption)) | (with_reducible refine Below.chg ?_ (by assumption) (by first | (simp; done) | omega | (simp; omega)))))⟩
        · obtain rfl : k = j := by omega
          have hm := mandBad_no fun i hi => hno.out i hi (by have := hl.out; omega)
          have hcs := checkL_size hfb.out hm
          clear hno hm
          have P := PS.out wr (h.out.below hbw2)
          obtain ⟨z, hz⟩ : ∃ z, szL l = z := ⟨_, rfl⟩
          rw [hz] at P hcs hsz
          by_cases h400 : 400 < z
          · have q : decide ((400 : Int) < (z : Int)) = true := decide_eq_true (by omega)
            rw [if_pos h400] at hcs
            replace hcs := Lib.hid hcs; replace P := Lib.hid P; replace hz := Lib.hid hz
            go_wp2_with fail
            refine Calls.mono (P.out) ?_
            rintro e w1 ⟨rfl, hb1⟩
            have z1 := Below.size hb1; try simp only [World.size_alloc, World.size_setCell, World.size_drew] at z1
            go_wp2_with fail
            go_ret
            exact Ret.mk (by rw [hcs.out]; rfl) (by repeat (first | with_reducible exact Below.refl _ _ | (with_reducible refine Below.al ?_) | (with_reducible refine Below.drew ?_) | (with_reducible refine Below.set ?_ (by first | (simp; done) | omega | (simp; omega))) | (with_reducible refine Below.thru ?_ (by assumption)) | (with_reducible refine Below.chg ?_ (by assumption) (by first | (simp; done) | omega | (simp; omega)))))
          · have q : decide ((400 : Int) < (z : Int)) = false := decide_eq_false (by omega)
            rw [if_neg h400] at hcs
            replace hcs := Lib.hid hcs; replace P := Lib.hid P; replace hz := Lib.hid hz
            go_wp2_with fail
            refine Calls.mono (P.out) ?_
            rintro e w1 ⟨rfl, hb1⟩
            have z1 := Below.size hb1; try simp only [World.size_alloc, World.size_setCell, World.size_drew] at z1
            go_wp2_with fail
            go_ret
            exact Ret.mk (by rw [hcs.out]; rfl) (by repeat (first | with_reducible exact Below.refl _ _ | (with_reducible refine Below.al ?_) | (with_reducible refine Below.drew ?_) | (with_reducible refine Below.set ?_ (by first | (simp; done) | omega | (simp; omega))) | (with_reducible refine Below.thru ?_ (by assumption)) | (with_reducible refine Below.chg ?_ (by assumption) (by first | (simp; done) | omega | (simp; omega)))))
set_option maxRecDepth 100000 in
set_option maxHeartbeats 800000 in
theorem rcheck_any (l : List El) (n : Nat) (hl : l.length = n) (hf : Few l) (a : Option Addr) (cap : Nat) (w : World) (h : Rd w a (encs l)) :
    Calls Try.prog 17 #[.slice a n cap] w (Ret w (.int .i64 (checkL l))) := by
  have hn : n ≤ 3000 := by rw [← hl]; exact hf.1
  have PS := fun W hW => rsize_any l n hl hf a cap W hW
  have hsz := few_take hf n
  rw [List.take_of_length_le (by omega)] at hsz
  replace h := Lib.hid h; replace hl := Lib.hid hl; replace hf := Lib.hid hf; replace PS := Lib.hid PS
  go_enter Try.func17, Try.ntmps17
  go_wp2_with fail
  go_loopg [3, 4] n (fun g i _ wr => ∃ (j : Nat), j ≤ n ∧ g = n - j ∧ i = .int .i64 j ∧ Hid (∀ i (hi : i < l.length), i < j → badO l[i] = 0) ∧ Below w.heap.size w wr)
  case atStart => exact ⟨0, by omega, by omega, rfl, Lib.hid (fun i _ h => by omega), (by repeat (first | with_reducible exact Below.refl _ _ | (with_reducible refine Below.al ?_) | (with_reducible refine Below.drew ?_) | (with_reducible refine Below.set ?_ (by first | (simp; done) | omega | (simp; omega))) | (with_reducible refine Below.thru ?_ (by assumption)) | (with_reducible refine Below.chg ?_ (by assumption) (by first | (simp; done) | omega | (simp; omega)))))⟩
  case round =>
    obtain ⟨j, hj, hg, rfl, hno, hbw⟩ := hrel
    by_cases hlt : j < n
    · have hjl : j < l.length := by have := hl.out; omega
      obtain ⟨b, off, rfl, hb, hc⟩ := els_at (h.out.below hbw) hl.out (by omega)
      obtain ⟨e0, e1⟩ := hc j hjl
      have ho := (hf.out.2 l[j] (List.getElem_mem hjl)).2
      have hit : badO l[j] ≠ 0 → checkL l = badO l[j] := fun h => by
        have := firstBad_at hjl h hno.out
        rw [checkL_bad (by rw [this]; exact h), this]
      have hnx : badO l[j] = 0 → ∀ i (hi : i < l.length), i < j + 1 → badO l[i] = 0 := fun h i hi h1 => by
        by_cases e : i = j
        · subst e; exact h
        · exact hno.out i hi (by omega)
      clear hc hno
      generalize l[j] = y at *
      obtain ⟨k, v⟩ := y
      unfold badO at hit hnx
      simp only at e0 e1 hit hnx ho
      by_cases h1 : k < 1
      · have q1 : decide (k < 1) = true := decide_eq_true h1
        rw [if_pos (.inl (by omega))] at hit
        replace hit := Lib.hid (hit (by decide))
        clear hnx
        go_wp2_with fail
        go_ret
        exact Ret.mk (by rw [hit.out]; rfl) (by repeat (first | with_reducible exact Below.refl _ _ | (with_reducible refine Below.al ?_) | (with_reducible refine Below.drew ?_) | (with_reducible refine Below.set ?_ (by first | (simp; done) | omega | (simp; omega))) | (with_reducible refine Below.thru ?_ (by assumption)) | (with_reducible refine Below.chg ?_ (by assumption) (by first | (simp; done) | omega | (simp; omega)))))
      · have q1 : decide (k < 1) = false := decide_eq_false h1
        by_cases h2 : 255 < k
        · have q2 : decide (255 < k) = true := decide_eq_true h2
          rw [if_pos (.inr h2)] at hit
          replace hit := Lib.hid (hit (by decide))
          clear hnx
          go_wp2_with fail
          go_ret
          exact Ret.mk (by rw [hit.out]; rfl) (by repeat (first | with_reducible exact Below.refl _ _ | (with_reducible refine Below.al ?_) | (with_reducible refine Below.drew ?_) | (with_reducible refine Below.set ?_ (by first | (simp; done) | omega | (simp; omega))) | (with_reducible refine Below.thru ?_ (by assumption)) | (with_reducible refine Below.chg ?_ (by assumption) (by first | (simp; done) | omega | (simp; omega)))))
        · have q2 : decide (255 < k) = false := decide_eq_false h2
          rw [if_neg (by omega)] at hit hnx
          by_cases h5 : 253 < v.size
          · have q5 : decide ((253 : Int) < v.size) = true := decide_eq_true (by omega)
            have q7 : decide ((0 : Int) < v.size) = true := decide_eq_true (by omega)
            have q8 : decide (0 < v.size) = true := decide_eq_true (by omega)
            rw [if_pos (.inr h5)] at hit
            by_cases h3 : k < 32
            · have q3 : decide (k < 32) = true := decide_eq_true h3
              replace hit := Lib.hid (hit (by decide))
              clear hnx
              go_wp2_with fail
              go_ret
              exact Ret.mk (by rw [hit.out]; rfl) (by repeat (first | with_reducible exact Below.refl _ _ | (with_reducible refine Below.al ?_) | (with_reducible refine Below.drew ?_) | (with_reducible refine Below.set ?_ (by first | (simp; done) | omega | (simp; omega))) | (with_reducible refine Below.thru ?_ (by assumption)) | (with_reducible refine Below.chg ?_ (by assumption) (by first | (simp; done) | omega | (simp; omega)))))
            · have q3 : decide (k < 32) = false := decide_eq_false h3
              replace hit := Lib.hid (hit (by decide))
              clear hnx
              go_wp2_with fail
              go_ret
              exact Ret.mk (by rw [hit.out]; rfl) (by repeat (first | with_reducible exact Below.refl _ _ | (with_reducible refine Below.al ?_) | (with_reducible refine Below.drew ?_) | (with_reducible refine Below.set ?_ (by first | (simp; done) | omega | (simp; omega))) | (with_reducible refine Below.thru ?_ (by assumption)) | (with_reducible refine Below.chg ?_ (by assumption) (by first | (simp; done) | omega | (simp; omega)))))
          · have q5 : decide ((253 : Int) < v.size) = false := decide_eq_false (by omega)
            by_cases h3 : k < 32
            · have q3 : decide (k < 32) = true := decide_eq_true h3
              by_cases h4 : v.size = 0
              · have q7 : decide ((0 : Int) < v.size) = false := decide_eq_false (by omega)
                have q8 : decide (0 < v.size) = false := decide_eq_false (by omega)
                rw [if_neg (by omega)] at hnx
                replace hnx := Lib.hid (hnx rfl)
                clear hit
                go_wp2_with fail
                go_roundg (n - (j + 1))
                case measure => omega
                case rel => exact ⟨j + 1, by omega, rfl, by go_num, hnx, (by repeat (first | with_reducible exact Below.refl _ _ | (with_reducible refine Below.al ?_) | (with_reducible refine Below.drew ?_) | (with_reducible refine Below.set ?_ (by first | (simp; done) | omega | (simp; omega))) | (with_reducible refine Below.thru ?_ (by assumption)) | (with_reducible refine Below.chg ?_ (by assumption) (by first | (simp; done) | omega | (simp; omega)))))⟩
              · have q7 : decide ((0 : Int) < v.size) = true := decide_eq_true (by omega)
                have q8 : decide (0 < v.size) = true := decide_eq_true (by omega)
                rw [if_pos (.inl ⟨by omega, h4⟩)] at hit
                replace hit := Lib.hid (hit (by decide))
                clear hnx
                go_wp2_with fail
                go_ret
                exact Ret.mk (by rw [hit.out]; rfl) (by repeat (first | with_reducible exact Below.refl _ _ | (with_reducible refine Below.al ?_) | (with_reducible refine Below.drew ?_) | (with_reducible refine Below.set ?_ (by first | (simp; done) | omega | (simp; omega))) | (with_reducible refine Below.thru ?_ (by assumption)) | (with_reducible refine Below.chg ?_ (by assumption) (by first | (simp; done) | omega | (simp; omega)))))
            · have q3 : decide (k < 32) = false := decide_eq_false h3
              rw [if_neg (by omega)] at hnx
              replace hnx := Lib.hid (hnx rfl)
              clear hit
              go_wp2_with fail
              go_roundg (n - (j + 1))
              case measure => omega
              case rel => exact ⟨j + 1, by omega, rfl, by go_num, hnx, (by repeat (first | with_reducible exact Below.refl _ _ | (with_reducible refine Below.al ?_) | (with_reducible refine Below.drew ?_) | (with_reducible refine Below.set ?_ (by first | (simp; done) | omega | (simp; omega))) | (with_reducible refine Below.thru ?_ (by assumption)) | (with_reducible refine Below.chg ?_ (by assumption) (by first | (simp; done) | omega | (simp; omega)))))⟩
    · obtain rfl : j = n := by omega
      have hfb := firstBad_no fun i hi => hno.out i hi (by have := hl.out; omega)
      clear hno
      obtain ⟨wo, hwo⟩ : ∃ wo : World, wo = wr := ⟨_, rfl⟩
      subst hwo
      replace hfb := Lib.hid hfb
      go_wp2_with fail
      go_loopg [5] j (fun g i wr => ∃ (k : Nat), k ≤ j ∧ g = j - k ∧ i = .int .i64 k ∧ Hid (∀ i, i < l.length → i < k → mandAt l i = false) ∧ Below w.heap.size w wr)
      case atStart => exact ⟨0, by omega, by omega, rfl, Lib.hid (fun i _ h => by omega), (by repeat (first | with_reducible exact Below.refl _ _ | (with_reducible refine Below.al ?_) | (with_reducible refine Below.drew ?_) | (with_reducible refine Below.set ?_ (by first | (simp; done) | omega | (simp; omega))) | (with_reducible refine Below.thru ?_ (by assumption)) | (with_reducible refine Below.chg ?_ (by assumption) (by first | (simp; done) | omega | (simp; omega)))))⟩
      case round =>
        obtain ⟨k, hk, hg2, rfl, hno, hbw2⟩ := hrel
        clear hg hlt hj
        by_cases hlt : k < j
        · have hkl : k < l.length := by have := hl.out; omega
          obtain ⟨b, off, rfl, hb, hc⟩ := els_at (h.out.below hbw2) hl.out (by omega)
          obtain ⟨e0, e1⟩ := hc k hkl
          have hit : mandAt l k = true → checkL l = 4 := fun h => checkL_mand hfb.out (mandBad_at hkl h)
          have hnx : mandAt l k = false → ∀ i, i < l.length → i < k + 1 → mandAt l i = false := fun h i hi h1 => by
            by_cases e : i = k
            · subst e; exact h
            · exact hno.out i hi (by omega)
          by_cases hlast : k + 1 = j
          · rw [mand_last hkl (by have := hl.out; omega)] at hit hnx
            clear hc hno
            generalize l[k] = y at *
            obtain ⟨kd, v⟩ := y
            simp only at e0 e1 hit hnx
            have r1 : ((k : Int) == (j : Int) - 1) = true := by simp; omega
            by_cases hk1 : kd = 1
            · subst hk1
              replace hit := Lib.hid (hit rfl)
              clear hnx
              go_wp2_with fail
              go_ret
              exact Ret.mk (by rw [hit.out]; rfl) (by repeat (first | with_reducible exact Below.refl _ _ | (with_reducible refine Below.al ?_) | (with_reducible refine Below.drew ?_) | (with_reducible refine Below.set ?_ (by first | (simp; done) | omega | (simp; omega))) | (with_reducible refine Below.thru ?_ (by assumption)) | (with_reducible refine Below.chg ?_ (by assumption) (by first | (simp; done) | omega | (simp; omega)))))
            · have q : (kd == 1) = false := by simp [hk1]
              replace hnx := Lib.hid (hnx (decide_eq_false hk1))
              clear hit hk1
              go_wp2_with fail
              go_roundg (j - (k + 1))
              case measure => omega
              case rel => exact ⟨k + 1, by omega, rfl, by go_num, hnx, (by repeat (first | with_reducible exact Below.refl _ _ | (with_reducible refine Below.al ?_) | (with_reducible refine Below.drew ?_) | (with_reducible refine Below.set ?_ (by first | (simp; done) | omega | (simp; omega))) | (with_reducible refine Below.thru ?_ (by assumption)) | (with_reducible refine Below.chg ?_ (by assumption) (by first | (simp; done) | omega | (simp; omega)))))⟩
          · have hkl2 : k + 1 < l.length := by have := hl.out; omega
            obtain ⟨e2, e3⟩ := hc (k + 1) hkl2
            rw [mand_next hkl2] at hit hnx
            clear hc hno
            generalize l[k + 1] = y2 at *
            generalize l[k] = y at *
            obtain ⟨kd, v⟩ := y
            obtain ⟨kd2, v2⟩ := y2
            simp only at e0 e1 e2 e3 hit hnx
            have r1 : ((k : Int) == (j : Int) - 1) = false := by simp; omega
            by_cases hk1 : kd = 1
            · subst hk1
              by_cases hk2 : kd2 = 1
              · subst hk2
                replace hit := Lib.hid (hit rfl)
                clear hnx
                go_wp2_with fail
                go_ret
                exact Ret.mk (by rw [hit.out]; rfl) (by repeat (first | with_reducible exact Below.refl _ _ | (with_reducible refine Below.al ?_) | (with_reducible refine Below.drew ?_) | (with_reducible refine Below.set ?_ (by first | (simp; done) | omega | (simp; omega))) | (with_reducible refine Below.thru ?_ (by assumption)) | (with_reducible refine Below.chg ?_ (by assumption) (by first | (simp; done) | omega | (simp; omega)))))
              · have q : (kd2 == 1) = false := by simp [hk2]
                replace hnx := Lib.hid (hnx (by simp [hk2]))
                clear hit hk2
                go_wp2_with fail
                go_roundg (j - (k + 1))
                case measure => omega
                case rel => exact ⟨k + 1, by omega, rfl, by go_num, hnx, (by repeat (first | with_reducible exact Below.refl _ _ | (with_reducible refine Below.al ?_) | (with_reducible refine Below.drew ?_) | (with_reducible refine Below.set ?_ (by first | (simp; done) | omega | (simp; omega))) | (with_reducible refine Below.thru ?_ (by assumption)) | (with_reducible refine Below.chg ?_ (by assumption) (by first | (simp; done) | omega | (simp; omega)))))⟩
            · have q : (kd == 1) = false := by simp [hk1]
              replace hnx := Lib.hid (hnx (by simp [hk1]))
              clear hit hk1
              go_wp2_with fail
              go_roundg (j - (k + 1))
              case measure => omega
              case rel => exact ⟨k + 1, by omega, rfl, by go_num, hnx, (by repeat (first | with_reducible exact Below.refl _ _ | (with_reducible refine Below.al ?_) | (with_reducible refine Below.drew ?_) | (with_reducible refine Below.set ?_ (by first | (simp; done) | omega | (simp; omega))) | (with_reducible refine Below.thru ?_ (by assumption)) | (with_reducible refine Below.chg ?_ (by assumption) (by first | (simp; done) | omega | (simp; omega)))))⟩
        · obtain rfl : k = j := by omega
          have hm := mandBad_no fun i hi => hno.out i hi (by have := hl.out; omega)
          have hcs := checkL_size hfb.out hm
          clear hno hm
          have P := PS.out wr (h.out.below hbw2)
          obtain ⟨z, hz⟩ : ∃ z, szL l = z := ⟨_, rfl⟩
          rw [hz] at P hcs hsz
          by_cases h400 : 400 < z
          · have q : decide ((400 : Int) < (z : Int)) = true := decide_eq_true (by omega)
            rw [if_pos h400] at hcs
            replace hcs := Lib.hid hcs; replace P := Lib.hid P; replace hz := Lib.hid hz
            go_wp2_with fail
            refine Calls.mono (P.out) ?_
            rintro e w1 ⟨rfl, hb1⟩
            have z1 := Below.size hb1; try simp only [World.size_alloc, World.size_setCell, World.size_drew] at z1
            go_wp2_with fail
            go_ret
            exact Ret.mk (by rw [hcs.out]; rfl) (by repeat (first | with_reducible exact Below.refl _ _ | (with_reducible refine Below.al ?_) | (with_reducible refine Below.drew ?_) | (with_reducible refine Below.set ?_ (by first | (simp; done) | omega | (simp; omega))) | (with_reducible refine Below.thru ?_ (by assumption)) | (with_reducible refine Below.chg ?_ (by assumption) (by first | (simp; done) | omega | (simp; omega)))))
          · have q : decide ((400 : Int) < (z : Int)) = false := decide_eq_false (by omega)
            rw [if_neg h400] at hcs
            replace hcs := Lib.hid hcs; replace P := Lib.hid P; replace hz := Lib.hid hz
            go_wp2_with fail
            refine Calls.mono (P.out) ?_
            rintro e w1 ⟨rfl, hb1⟩
            have z1 := Below.size hb1; try simp only [World.size_alloc, World.size_setCell, World.size_drew] at z1
            go_wp2_with fail
            go_ret
            exact Ret.mk (by rw [hcs.out]; rfl) (by repeat (first | with_reducible exact Below.refl _ _ | (with_reducible refine Below.al ?_) | (with_reducible refine Below.drew ?_) | (with_reducible refine Below.set ?_ (by first | (simp; done) | omega | (simp; omega))) | (with_reducible refine Below.thru ?_ (by assumption)) | (with_reducible refine Below.chg ?_ (by assumption) (by first | (simp; done) | omega | (simp; omega)))))
end Go.Proofs.Ytpajedpkdfacoaa.Opts
