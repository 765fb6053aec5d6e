/- The walks of feat's answer: check, Put, has, Meet. -/
import Derived.Test.YtljgmephajocaaaFeatWorks
import Derived.Test.YtljgmephajocaaaMadeT
namespace Go.Proofs.Ytljgmephajocaaa.Feat
set_option linter.unusedSimpArgs false
set_option linter.unusedVariables false
open Go Go.RowKit Go.Shelf Go.Proofs.Ytljgmephajocaaa
open Go.Proofs.Ytljgmephajocaaa.Opts (u8 u8_nat arr_ext str_emp)
attribute [local irreducible] Calls

set_option maxRecDepth 100000 in
set_option maxHeartbeats 800000 in
theorem rcheck_any (num : Int) (l : List Int) (n : Nat) (hl : l.length = n) (hn : n ≤ 1000000) (a : Option Addr) (cap : Nat) (w : World) (h : Rd w a (i64s l)) :
    Calls Try.prog 105 #[.agg #[.int .i64 num, .slice a n cap]] w (Ret w (.int .i64 (checkF num l))) := by
  have H0 := (St.zero w).alloc [.int .i64 num, .slice a n cap] 88
  unfold checkF
  rw [hl]
  by_cases h1 : num < 1
  · have q : decide (num < 1) = true := decide_eq_true h1
    rw [if_pos (.inl h1)]
    replace H0 := Lib.hid H0; replace h := Lib.hid h
    go_enter Try.func105, Try.ntmps105
    go_wp2_with fail
    go_ret
    exact Ret.mk rfl (by repeat (first | with_reducible exact Below.refl _ _ | (with_reducible refine Below.al ?_) | (with_reducible refine Below.drew ?_) | (with_reducible refine Below.set ?_ (by first | (simp; done) | omega | (simp; omega))) | (with_reducible refine Below.thru ?_ (by assumption)) | (with_reducible refine Below.chg ?_ (by assumption) (by first | (simp; done) | omega | (simp; omega)))))
  · have q : decide (num < 1) = false := decide_eq_false h1
    by_cases h2 : 127 < num
    · have q2 : decide (127 < num) = true := decide_eq_true h2
      rw [if_pos (.inr h2)]
      replace H0 := Lib.hid H0; replace h := Lib.hid h
      go_enter Try.func105, Try.ntmps105
      go_wp2_with fail
      go_ret
      exact Ret.mk rfl (by repeat (first | with_reducible exact Below.refl _ _ | (with_reducible refine Below.al ?_) | (with_reducible refine Below.drew ?_) | (with_reducible refine Below.set ?_ (by first | (simp; done) | omega | (simp; omega))) | (with_reducible refine Below.thru ?_ (by assumption)) | (with_reducible refine Below.chg ?_ (by assumption) (by first | (simp; done) | omega | (simp; omega)))))
    · have q2 : decide (127 < num) = false := decide_eq_false h2
      rw [if_neg (by omega)]
      by_cases h3 : n = 0
      · have q3 : ((n : Int) == 0) = true := by simp; omega
        rw [if_pos h3]
        subst h3
        replace H0 := Lib.hid H0; replace h := Lib.hid h
        go_enter Try.func105, Try.ntmps105
        go_wp2_with fail
        go_ret
        exact Ret.mk rfl (by repeat (first | with_reducible exact Below.refl _ _ | (with_reducible refine Below.al ?_) | (with_reducible refine Below.drew ?_) | (with_reducible refine Below.set ?_ (by first | (simp; done) | omega | (simp; omega))) | (with_reducible refine Below.thru ?_ (by assumption)) | (with_reducible refine Below.chg ?_ (by assumption) (by first | (simp; done) | omega | (simp; omega)))))
      · have q3 : ((n : Int) == 0) = false := by simp; omega
        rw [if_neg h3]
        by_cases h4 : 20 < n
        · have q4 : decide ((20 : Int) < (n : Int)) = true := decide_eq_true (by omega)
          rw [if_pos h4]
          replace H0 := Lib.hid H0; replace h := Lib.hid h
          go_enter Try.func105, Try.ntmps105
          go_wp2_with fail
          go_ret
          exact Ret.mk rfl (by repeat (first | with_reducible exact Below.refl _ _ | (with_reducible refine Below.al ?_) | (with_reducible refine Below.drew ?_) | (with_reducible refine Below.set ?_ (by first | (simp; done) | omega | (simp; omega))) | (with_reducible refine Below.thru ?_ (by assumption)) | (with_reducible refine Below.chg ?_ (by assumption) (by first | (simp; done) | omega | (simp; omega)))))
        · have q4 : decide ((20 : Int) < (n : Int)) = false := decide_eq_false (by omega)
          rw [if_neg h4]
          obtain ⟨r, hr⟩ : ∃ r : Int, (if l.any outB = true then 3 else 0) = r := ⟨_, rfl⟩
          rw [hr]
          replace H0 := Lib.hid H0; replace h := Lib.hid h; replace hl := Lib.hid hl; replace hr := Lib.hid hr
          go_enter Try.func105, Try.ntmps105
          go_wp2_with fail
          go_loopg [3] n (fun g i wr => ∃ j : Nat, j ≤ n ∧ g = n - j ∧ i = .int .i64 j ∧ Hid (∀ k (hk : k < l.length), k < j → outB l[k] = false) ∧ St w none0 wr [cellA w.heap.size [.int .i64 num, .slice a n cap]])
          case atStart => exact ⟨0, by omega, by omega, rfl, (fun k hk h => by omega), H0.out⟩
          case round =>
            obtain ⟨j, hj, hg, rfl, hno, hst⟩ := hrel
            obtain ⟨z, c, f⟩ := hst.box 0 rfl
            clear H0
            by_cases hlt : j < n
            · have hjl : j < l.length := by have := hl.out; omega
              obtain ⟨b, off, rfl, hb, e0⟩ := ints_at (h.out.below hst.below) hjl
              have hit : outB l[j] = true → r = 3 := fun hb => by rw [← hr.out, if_pos (List.any_eq_true.2 ⟨l[j], List.getElem_mem hjl, hb⟩)]
              have hnx : outB l[j] = false → ∀ k (hk : k < l.length), k < j + 1 → outB l[k] = false := fun h0 k hk h1 => by
                by_cases e : k = j
                · subst e; exact h0
                · exact hno.out k hk (by omega)
              unfold outB at hit hnx
              by_cases x1 : l[j] < 0
              · have y1 : decide (l[j] < 0) = true := decide_eq_true x1
                have hr3 := hit (by rw [y1]; rfl)
                subst hr3
                clear hit hnx
                replace x1 := Lib.hid x1
                replace hst := Lib.hid hst
                go_wp2_with fail
                go_ret
                exact Ret.mk rfl hst.out.below
              · have y1 : decide (l[j] < 0) = false := decide_eq_false x1
                by_cases x2 : 255 < l[j]
                · have y2 : decide (255 < l[j]) = true := decide_eq_true x2
                  have hr3 := hit (by rw [y1, y2]; rfl)
                  subst hr3
                  clear hit hnx
                  replace x1 := Lib.hid x1
                  replace x2 := Lib.hid x2
                  replace hst := Lib.hid hst
                  go_wp2_with fail
                  go_ret
                  exact Ret.mk rfl hst.out.below
                · have y2 : decide (255 < l[j]) = false := decide_eq_false x2
                  replace hnx := Lib.hid (hnx (by rw [y1, y2]; rfl))
                  clear hit
                  replace x1 := Lib.hid x1
                  replace x2 := Lib.hid x2
                  replace hst := Lib.hid hst
                  go_wp2_with fail
                  go_roundg (n - (j + 1))
                  case measure => omega
                  case rel => exact ⟨j + 1, by omega, rfl, by go_num, hnx.out, hst.out⟩
            · obtain rfl : j = n := by omega
              have hr0 : r = 0 := by
                rw [← hr.out, if_neg]
                rw [List.any_eq_true]
                rintro ⟨x, hx, hox⟩
                obtain ⟨i, hi, rfl⟩ := List.getElem_of_mem hx
                rw [hno.out i hi (by have := hl.out; omega)] at hox
                cases hox
              subst hr0
              clear hno hr
              replace hst := Lib.hid hst
              go_wp2_with fail
              go_ret
              exact Ret.mk rfl hst.out.below

set_option maxRecDepth 100000 in
set_option maxHeartbeats 400000 in
theorem has_any (l : List Int) (n : Nat) (hl : l.length = n) (hn : n ≤ 1000000) (a : Option Addr) (cap : Nat) (x : Int) (w : World) (h : Rd w a (i64s l)) :
    Calls Try.prog 107 #[.slice a n cap, .int .i64 x] w (Ret w (.bool (l.any (fun y => x == y)))) := by
  obtain ⟨r, hr⟩ : ∃ r, l.any (fun y => x == y) = r := ⟨_, rfl⟩
  rw [hr]
  replace h := Lib.hid h; replace hl := Lib.hid hl; replace hr := Lib.hid hr
  go_enter Try.func107, Try.ntmps107
  go_wp2_with fail
  go_loopg [5] n (fun g i wr => ∃ j : Nat, j ≤ n ∧ g = n - j ∧ i = .int .i64 j ∧ Hid (∀ k (hk : k < l.length), k < j → (x == l[k]) = false) ∧ Below w.heap.size w wr)
  case atStart => exact ⟨0, by omega, by omega, rfl, (fun k hk h => by omega), (by repeat (first | with_reducible exact Below.refl _ _ | (with_reducible refine Below.al ?_) | (with_reducible refine Below.drew ?_) | (with_reducible refine Below.set ?_ (by first | (simp; done) | omega | (simp; omega))) | (with_reducible refine Below.thru ?_ (by assumption)) | (with_reducible refine Below.chg ?_ (by assumption) (by first | (simp; done) | omega | (simp; omega)))))⟩
  case round =>
    obtain ⟨j, hj, hg, rfl, hno, hbw⟩ := hrel
    by_cases hlt : j < n
    · have hjl : j < l.length := by have := hl.out; omega
      obtain ⟨b, off, rfl, hb, e0⟩ := ints_at (h.out.below hbw) hjl
      have hnx : (x == l[j]) = false → ∀ k (hk : k < l.length), k < j + 1 → (x == l[k]) = false := fun h0 k hk h1 => by
        by_cases e : k = j
        · subst e; exact h0
        · exact hno.out k hk (by omega)
      have hit : (x == l[j]) = true → r = true := fun hb => by rw [← hr.out]; exact List.any_eq_true.2 ⟨l[j], List.getElem_mem hjl, hb⟩
      have hc : (l[j] == x) = (x == l[j]) := Bool.beq_comm
      cases hb0 : (x == l[j]) with
      | true =>
        have hrt := hit hb0
        subst hrt
        rw [hb0] at hc
        clear hnx hit hb0
        go_wp2_with fail
        go_ret
        exact Ret.mk rfl (by repeat (first | with_reducible exact Below.refl _ _ | (with_reducible refine Below.al ?_) | (with_reducible refine Below.drew ?_) | (with_reducible refine Below.set ?_ (by first | (simp; done) | omega | (simp; omega))) | (with_reducible refine Below.thru ?_ (by assumption)) | (with_reducible refine Below.chg ?_ (by assumption) (by first | (simp; done) | omega | (simp; omega)))))
      | false =>
        rw [hb0] at hc
        replace hnx := Lib.hid (hnx hb0)
        clear hit hb0
        go_wp2_with fail
        go_roundg (n - (j + 1))
        case measure => omega
        case rel => exact ⟨j + 1, by omega, rfl, by go_num, hnx.out, (by repeat (first | with_reducible exact Below.refl _ _ | (with_reducible refine Below.al ?_) | (with_reducible refine Below.drew ?_) | (with_reducible refine Below.set ?_ (by first | (simp; done) | omega | (simp; omega))) | (with_reducible refine Below.thru ?_ (by assumption)) | (with_reducible refine Below.chg ?_ (by assumption) (by first | (simp; done) | omega | (simp; omega)))))⟩
    · obtain rfl : j = n := by omega
      have hr0 : r = false := by
        rw [← hr.out, List.any_eq_false]
        intro y hy
        obtain ⟨i, hi, rfl⟩ := List.getElem_of_mem hy
        rw [hno.out i hi (by have := hl.out; omega)]
        simp
      subst hr0
      go_wp2_with fail
      go_ret
      exact Ret.mk rfl (by repeat (first | with_reducible exact Below.refl _ _ | (with_reducible refine Below.al ?_) | (with_reducible refine Below.drew ?_) | (with_reducible refine Below.set ?_ (by first | (simp; done) | omega | (simp; omega))) | (with_reducible refine Below.thru ?_ (by assumption)) | (with_reducible refine Below.chg ?_ (by assumption) (by first | (simp; done) | omega | (simp; omega)))))
set_option maxRecDepth 100000 in
set_option maxHeartbeats 400000 in
theorem rmeet_any (l c : List Int) (n m : Nat) (hl : l.length = n) (hc : c.length = m) (hn : n ≤ 1000000) (hm : m ≤ 1000000) (a b : Option Addr) (ca cb : Nat) (w : World) (h : Rd w a (i64s l)) (hb : Rd w b (i64s c)) :
    Calls Try.prog 55 #[.slice a n ca, .slice b m cb] w (Ret w (.tuple #[.int .i64 (meetV l c).1, .bool (meetV l c).2])) := by
  have PC := fun x W hW => has_any c m hc hm b cb x W (hb.below hW)
  obtain ⟨v, hv⟩ : ∃ v, meetV l c = v := ⟨_, rfl⟩
  rw [hv]
  replace h := Lib.hid h; replace hl := Lib.hid hl; replace PC := Lib.hid PC; replace hv := Lib.hid hv
  clear hb
  go_enter Try.func55, Try.ntmps55
  go_wp2_with fail
  go_loopg [6] n (fun g i wr => ∃ j : Nat, j ≤ n ∧ g = n - j ∧ i = .int .i64 j ∧ Hid (∀ k (hk : k < l.length), k < j → c.any (fun y => l[k] == y) = false) ∧ Below w.heap.size w wr)
  case atStart => exact ⟨0, by omega, by omega, rfl, (fun k hk h => by omega), (by repeat (first | with_reducible exact Below.refl _ _ | (with_reducible refine Below.al ?_) | (with_reducible refine Below.drew ?_) | (with_reducible refine Below.set ?_ (by first | (simp; done) | omega | (simp; omega))) | (with_reducible refine Below.thru ?_ (by assumption)) | (with_reducible refine Below.chg ?_ (by assumption) (by first | (simp; done) | omega | (simp; omega)))))⟩
  case round =>
    obtain ⟨j, hj, hg, rfl, hno, hbw⟩ := hrel
    by_cases hlt : j < n
    · have hjl : j < l.length := by have := hl.out; omega
      obtain ⟨b', off, rfl, hb', e0⟩ := ints_at (h.out.below hbw) hjl
      have P := PC.out l[j] wr hbw
      have hit := fun h => meet_hit (s := l) (c := c) hjl h (fun k hk hkj => hno.out k hk hkj)
      rw [hv.out] at hit
      have hnx : c.any (fun y => l[j] == y) = false → ∀ k (hk : k < l.length), k < j + 1 → c.any (fun y => l[k] == y) = false := fun h0 k hk h1 => by
        by_cases e : k = j
        · subst e; exact h0
        · exact hno.out k hk (by omega)
      cases hb0 : c.any (fun z => l[j] == z) with
      | true =>
        rw [hb0] at P
        have hvy := hit hb0
        subst hvy
        clear hnx hit
        replace P := Lib.hid P; replace hb0 := Lib.hid hb0
        go_wp2_with fail
        refine Calls.mono P.out ?_
        rintro e w1 ⟨rfl, hb1⟩
        have hbw1 := hbw.trans (hb1.mono hbw.size)
        have e1 := e0
        rw [← hb1.cell (p := ⟨b', off + j, none⟩) hb'] at e1
        have hb2 : b' < w1.heap.size := Nat.lt_of_lt_of_le hb' hb1.size
        clear P
        go_wp2_with fail
        go_ret2
        exact Ret.mk rfl hbw1
      | false =>
        rw [hb0] at P
        replace hnx := Lib.hid (hnx hb0)
        clear hit
        replace P := Lib.hid P; replace hb0 := Lib.hid hb0
        go_wp2_with fail
        refine Calls.mono (P.out) ?_
        rintro e w1 ⟨rfl, hb1⟩
        have z1 := Below.size hb1; try simp only [World.size_alloc, World.size_setCell, World.size_drew] at z1
        clear P
        go_wp2_with fail
        go_roundg (n - (j + 1))
        case measure => omega
        case rel => exact ⟨j + 1, by omega, rfl, by go_num, hnx.out, (by repeat (first | with_reducible exact Below.refl _ _ | (with_reducible refine Below.al ?_) | (with_reducible refine Below.drew ?_) | (with_reducible refine Below.set ?_ (by first | (simp; done) | omega | (simp; omega))) | (with_reducible refine Below.thru ?_ (by assumption)) | (with_reducible refine Below.chg ?_ (by assumption) (by first | (simp; done) | omega | (simp; omega)))))⟩
    · obtain rfl : j = n := by omega
      have hf : v = (0, false) := by rw [← hv.out]; exact meet_none (fun i hi => hno.out i hi (by have := hl.out; omega))
      subst hf
      go_wp2_with fail
      go_ret2
      exact Ret.mk rfl (by repeat (first | with_reducible exact Below.refl _ _ | (with_reducible refine Below.al ?_) | (with_reducible refine Below.drew ?_) | (with_reducible refine Below.set ?_ (by first | (simp; done) | omega | (simp; omega))) | (with_reducible refine Below.thru ?_ (by assumption)) | (with_reducible refine Below.chg ?_ (by assumption) (by first | (simp; done) | omega | (simp; omega)))))
end Go.Proofs.Ytljgmephajocaaa.Feat
