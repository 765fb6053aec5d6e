/- The walk of the statement OptsFinds. -/
import Derived.Test.YtljgmephajocaaaOptsMust
namespace Go.Proofs.Ytljgmephajocaaa.Opts
set_option linter.unusedSimpArgs false
set_option linter.unusedVariables false
open Go Go.RowKit Go.Shelf Go.Proofs.Ytljgmephajocaaa
attribute [local irreducible] Calls

theorem findV_step {l : List El} {k : Int} {j : Nat} (hj : j < l.length) : findV (l.take (j + 1)) k = if (findV (l.take j) k).2 then findV (l.take j) k else if l[j].1 = k then (l[j].2, true) else (⟨#[]⟩, false) := by
  unfold findV
  rw [List.take_succ_eq_append_getElem hj, List.find?_append]
  cases hf : (l.take j).find? (fun x => x.1 == k) with
  | some x => simp
  | none =>
    by_cases h : l[j].1 = k
    · simp [h]
    · simp [h]
theorem findV_no {l : List El} {k : Int} (h : (findV l k).2 = false) : findV l k = (⟨#[]⟩, false) := by
  unfold findV at *
  cases hf : l.find? (fun x => x.1 == k) with
  | some x => rw [hf] at h; cases h
  | none => rfl
def mustU (l : List El) (k : Int) (j : Nat) : Bool := (List.range j).any (mustAt l k)
theorem mustU_step (l : List El) (k : Int) (j : Nat) : mustU l k (j + 1) = (mustU l k j || mustAt l k j) := by
  unfold mustU
  rw [List.range_succ, List.any_append]
  simp
theorem mustAt_ne {l : List El} {k : Int} {j : Nat} (hj : j < l.length) (h : l[j].1 ≠ k) : mustAt l k j = false := by
  by_cases h0 : 0 < j
  · rw [must_at hj h0, decide_eq_false h]; rfl
  · obtain rfl : j = 0 := by omega
    simp [mustAt]

set_option maxRecDepth 100000 in
set_option maxHeartbeats 1600000 in
theorem finds_walk (a : Option Addr) (n cap : Nat) (k : Int) (w1 : (Lit.int .i64 k).wf = true) (w : World) (h0 : Fits w (.slice 2 (.cons 1 (.int .i64) (.cons 1 .str .nil))) [.slice a n cap]) :
    Calls Try.prog 11 #[.slice a n cap, .int .i64 k] w (Ret w (.bool true)) := by
  obtain ⟨hn, _, L, hl, hgood, hL⟩ := els_in h0
  have PG := fun W hW => great_any L n hl hn (fun o ho => (hgood o ho).2) a cap W (hL.below hW)
  unfold maxLen at hn
  clear h0 w1
  replace hl := Lib.hid hl; replace hL := Lib.hid hL; replace hgood := Lib.hid hgood
  go_enter Try.func11, Try.ntmps11
  go_wp2_with fail
  refine Calls.mono (works_law _) ?_
  rintro e w1 ⟨rfl, hb1⟩
  have P1 := PG w1 hb1
  clear PG
  cases hbig : bigO L with
  | true =>
    rw [hbig] at P1
    go_wp2_with fail
    refine Calls.mono P1 ?_
    rintro e w2 ⟨rfl, hb2⟩
    have hbw2 := hb1.trans (hb2.mono hb1.size)
    clear P1
    go_wp2_with fail
    go_ret
    exact Ret.mk rfl hbw2
  | false =>
    rw [hbig] at P1
    obtain ⟨hL60, hL600⟩ := big_no hbig
    have hn60 : n ≤ 60 := by rw [← hl.out]; exact hL60
    clear hL600 hL60 hgood hbig
    go_wp2_with fail
    refine Calls.mono P1 ?_
    rintro e w2 ⟨rfl, hb2⟩
    have hbw2 := hb1.trans (hb2.mono hb1.size)
    clear P1
    have P2 := find_any L n cap k hl.out (by omega) a w2 (hL.out.below hbw2)
    obtain ⟨fv, hfv⟩ : ∃ fv, findV L k = fv := ⟨_, rfl⟩
    rw [hfv] at P2
    replace hfv := Lib.hid hfv
    go_wp2_with fail
    refine Calls.mono P2 ?_
    rintro e w3 ⟨rfl, hb3⟩
    have hbw3 := hbw2.trans (hb3.mono hbw2.size)
    clear P2 hb3 hb2 hb1 hbw2
    have hst0 : St w none0 w3 [] := (St.zero w).thru hbw3
    replace hst0 := Lib.hid hst0
    go_wp2_with fail
    go_loopg [7, 8, 9, 10] n (fun g vv iv mv i wr => ∃ (j : Nat) (f : ByteArray × Bool) (mu : Bool), j ≤ n ∧ g = n - j ∧ i = .int .i64 j ∧ vv = .string f.1 ∧ iv = .bool f.2 ∧ Hid (findV (L.take j) k = f) ∧ mv = .bool mu ∧ Hid (mustU L k j = mu) ∧ St w none0 wr [])
    case atStart => exact ⟨0, (⟨#[]⟩, false), false, by omega, by omega, rfl, rfl, rfl, rfl, rfl, rfl, hst0.out⟩
    case round =>
      obtain ⟨j, f, mu, hj, hg, rfl, rfl, rfl, hf, rfl, hmu, hst⟩ := hrel
      obtain ⟨fb, fi⟩ := f
      by_cases hlt : j < n
      · have hjl : j < L.length := by have := hl.out; omega
        obtain ⟨b, off, rfl, hb, hc⟩ := els_at (hL.out.below hst.below) hl.out (by omega)
        obtain ⟨e0, e1⟩ := hc j hjl
        have hstep := findV_step (k := k) hjl
        rw [hf.out] at hstep
        simp only at hstep
        clear hst0
        by_cases hq : L[j].1 = k
        · have q : (L[j].1 != k) = false := by simp [hq]
          cases fi with
          | true =>
            simp only [if_true] at hstep
            have hfs := hstep
            clear hstep hf
            cases mu with
            | true =>
              have hms : mustU L k (j + 1) = true := by rw [mustU_step, hmu.out]; rfl
              replace hfs := Lib.hid hfs; replace hms := Lib.hid hms; replace hst := Lib.hid hst; replace hl := Lib.hid hl; replace hL := Lib.hid hL
              go_wp2_with fail
              go_roundg (n - (j + 1))
              case measure => omega
              case rel => exact ⟨j + 1, _, _, by omega, rfl, by go_num, rfl, rfl, hfs, rfl, hms, hst.out⟩
            | false =>
              by_cases h0 : j = 0
              · have hms : mustU L k (j + 1) = false := by rw [mustU_step, hmu.out, h0]; simp [mustAt]
                have q0 : decide ((0 : Int) < (j : Int)) = false := decide_eq_false (by omega)
                have q0' : decide (0 < j) = false := decide_eq_false (by omega)
                replace h0 := Lib.hid h0
                replace hfs := Lib.hid hfs; replace hms := Lib.hid hms; replace hst := Lib.hid hst; replace hl := Lib.hid hl; replace hL := Lib.hid hL
                go_wp2_with fail
                go_roundg (n - (j + 1))
                case measure => omega
                case rel => exact ⟨j + 1, _, _, by omega, rfl, by go_num, rfl, rfl, hfs, rfl, hms, hst.out⟩
              · have q0 : decide ((0 : Int) < (j : Int)) = true := decide_eq_true (by omega)
                have q0' : decide (0 < j) = true := decide_eq_true (by omega)
                have hj1 : j - 1 < L.length := by omega
                have hma := must_at (k := k) hjl (by omega)
                rw [decide_eq_true hq, Bool.true_and] at hma
                obtain ⟨e2, e3⟩ := hc (j - 1) hj1
                have hi1 : ((j : Int) - 1) = ((j - 1 : Nat) : Int) := by omega
                have hxl : j - 1 < n := by omega
                have hge : 1 ≤ j := by omega
                by_cases hy : L[j - 1].1 = 1
                · have hms : mustU L k (j + 1) = true := by rw [mustU_step, hma, hmu.out, hy]; rfl
                  rw [hy] at e2
                  clear hma hy hc
                  replace hfs := Lib.hid hfs; replace hms := Lib.hid hms; replace hst := Lib.hid hst; replace hl := Lib.hid hl; replace hL := Lib.hid hL
                  go_wp2_with fail
                  go_roundg (n - (j + 1))
                  case measure => omega
                  case rel => exact ⟨j + 1, _, _, by omega, rfl, by go_num, rfl, rfl, hfs, rfl, hms, hst.out⟩
                · have hms : mustU L k (j + 1) = false := by rw [mustU_step, hma, hmu.out, decide_eq_false hy]; rfl
                  have q1 : (L[j - 1].1 == 1) = false := by simpa using hy
                  clear hma hy hc
                  replace hfs := Lib.hid hfs; replace hms := Lib.hid hms; replace hst := Lib.hid hst; replace hl := Lib.hid hl; replace hL := Lib.hid hL
                  go_wp2_with fail
                  go_roundg (n - (j + 1))
                  case measure => omega
                  case rel => exact ⟨j + 1, _, _, by omega, rfl, by go_num, rfl, rfl, hfs, rfl, hms, hst.out⟩
          | false =>
            simp only [Bool.false_eq_true, if_false, if_pos hq] at hstep
            have hfs := hstep
            clear hstep hf
            cases mu with
            | true =>
              have hms : mustU L k (j + 1) = true := by rw [mustU_step, hmu.out]; rfl
              replace hfs := Lib.hid hfs; replace hms := Lib.hid hms; replace hst := Lib.hid hst; replace hl := Lib.hid hl; replace hL := Lib.hid hL
              go_wp2_with fail
              go_roundg (n - (j + 1))
              case measure => omega
              case rel => exact ⟨j + 1, _, _, by omega, rfl, by go_num, rfl, rfl, hfs, rfl, hms, hst.out⟩
            | false =>
              by_cases h0 : j = 0
              · have hms : mustU L k (j + 1) = false := by rw [mustU_step, hmu.out, h0]; simp [mustAt]
                have q0 : decide ((0 : Int) < (j : Int)) = false := decide_eq_false (by omega)
                have q0' : decide (0 < j) = false := decide_eq_false (by omega)
                replace h0 := Lib.hid h0
                replace hfs := Lib.hid hfs; replace hms := Lib.hid hms; replace hst := Lib.hid hst; replace hl := Lib.hid hl; replace hL := Lib.hid hL
                go_wp2_with fail
                go_roundg (n - (j + 1))
                case measure => omega
                case rel => exact ⟨j + 1, _, _, by omega, rfl, by go_num, rfl, rfl, hfs, rfl, hms, hst.out⟩
              · have q0 : decide ((0 : Int) < (j : Int)) = true := decide_eq_true (by omega)
                have q0' : decide (0 < j) = true := decide_eq_true (by omega)
                have hj1 : j - 1 < L.length := by omega
                have hma := must_at (k := k) hjl (by omega)
                rw [decide_eq_true hq, Bool.true_and] at hma
                obtain ⟨e2, e3⟩ := hc (j - 1) hj1
                have hi1 : ((j : Int) - 1) = ((j - 1 : Nat) : Int) := by omega
                have hxl : j - 1 < n := by omega
                have hge : 1 ≤ j := by omega
                by_cases hy : L[j - 1].1 = 1
                · have hms : mustU L k (j + 1) = true := by rw [mustU_step, hma, hmu.out, hy]; rfl
                  rw [hy] at e2
                  clear hma hy hc
                  replace hfs := Lib.hid hfs; replace hms := Lib.hid hms; replace hst := Lib.hid hst; replace hl := Lib.hid hl; replace hL := Lib.hid hL
                  go_wp2_with fail
                  go_roundg (n - (j + 1))
                  case measure => omega
                  case rel => exact ⟨j + 1, _, _, by omega, rfl, by go_num, rfl, rfl, hfs, rfl, hms, hst.out⟩
                · have hms : mustU L k (j + 1) = false := by rw [mustU_step, hma, hmu.out, decide_eq_false hy]; rfl
                  have q1 : (L[j - 1].1 == 1) = false := by simpa using hy
                  clear hma hy hc
                  replace hfs := Lib.hid hfs; replace hms := Lib.hid hms; replace hst := Lib.hid hst; replace hl := Lib.hid hl; replace hL := Lib.hid hL
                  go_wp2_with fail
                  go_roundg (n - (j + 1))
                  case measure => omega
                  case rel => exact ⟨j + 1, _, _, by omega, rfl, by go_num, rfl, rfl, hfs, rfl, hms, hst.out⟩
        · have q : (L[j].1 != k) = true := by simp [hq]
          have hms : mustU L k (j + 1) = mu := by rw [mustU_step, mustAt_ne hjl hq, hmu.out, Bool.or_false]
          have hfs : findV (L.take (j + 1)) k = (fb, fi) := by
            rw [hstep]
            cases fi with
            | true => rfl
            | false =>
              rw [if_neg (by simp), if_neg hq, ← hf.out]
              exact (findV_no (by rw [hf.out])).symm
          clear hstep hf hc
          replace hq := Lib.hid hq
          replace hfs := Lib.hid hfs; replace hms := Lib.hid hms; replace hst := Lib.hid hst; replace hl := Lib.hid hl; replace hL := Lib.hid hL
          go_wp2_with fail
          go_roundg (n - (j + 1))
          case measure => omega
          case rel => exact ⟨j + 1, _, _, by omega, rfl, by go_num, rfl, rfl, hfs, rfl, hms, hst.out⟩
      · obtain rfl : j = n := by omega
        have hfe : fv = (fb, fi) := by
          rw [← hfv.out, ← hf.out, List.take_of_length_le (by have := hl.out; omega)]
        subst hfe
        have P3 := must_any L j cap k hl.out (by omega) a wr (hL.out.below hst.below)
        have hme : mustV L k = mu := by rw [← hmu.out, ← hl.out]; rfl
        rw [hme] at P3
        have r1 : (fb.toList == fb.toList) = true := by simp
        have r2 : (fi == fi) = true := by simp
        have r3 : (mu == mu) = true := by simp
        replace hst := Lib.hid hst
        clear hst0 hme
        go_wp2_with fail
        refine Calls.mono P3 ?_
        rintro e w4 ⟨rfl, hb4⟩
        have h4 := hst.out.thru hb4
        clear P3
        replace h4 := Lib.hid h4
        go_wp2_with fail
        go_ret
        exact h4.out.ret rfl
end Go.Proofs.Ytljgmephajocaaa.Opts
