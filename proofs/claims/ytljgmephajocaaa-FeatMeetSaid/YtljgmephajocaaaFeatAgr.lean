/- The walks of feat.Agreed, and of the statement's works. -/
import Derived.Test.YtljgmephajocaaaFeatAns
namespace Go.Proofs.Ytljgmephajocaaa.Feat
set_option linter.unusedSimpArgs false
set_option linter.unusedVariables false
open Go Go.RowKit Go.Shelf Go.Proofs.Ytljgmephajocaaa
open Go.Proofs.Ytljgmephajocaaa.Opts (El encs Few els_at arr_ext)
attribute [local irreducible] Calls

def agrF (number : Int) : List El → Int × Bool
  | [] => (0, false)
  | o :: t => if getE o.1 o.2.data.toList = 0 ∧ o.1 = 33 ∧ getN o.1 o.2.data.toList = number then ((getL o.1 o.2.data.toList).headD 0, true) else agrF number t
theorem getL_pos {k : Int} {l : List UInt8} (h : getE k l = 0) : 0 < (getL k l).length := by
  unfold getL
  rw [if_pos h]
  unfold getE at h
  split at h
  · split at h
    · cases h
    · exact (checkF_ok h).2.2.1
  · cases h
set_option maxRecDepth 100000 in
set_option maxHeartbeats 1000000 in
theorem agreed_any (l : List El) (n cap : Nat) (a : Option Addr) (hl : l.length = n) (hf : Few l) (number : Int) (w : World) (h : Rd w a (encs l)) :
    Calls Try.prog 62 #[.slice a n cap, .int .i64 number] w (Ret w (.tuple #[.int .i64 (agrF number l).1, .bool (agrF number l).2])) := by
  have hn : n ≤ 3000 := by rw [← hl]; exact hf.1
  obtain ⟨R, hR⟩ : ∃ R, agrF number l = R := ⟨_, rfl⟩
  rw [hR]
  replace h := Lib.hid h; replace hl := Lib.hid hl; replace hf := Lib.hid hf; replace hR := Lib.hid hR
  go_enter Try.func62, Try.ntmps62
  go_wp2_with fail
  go_loopg [7, 8, 9, 12] n (fun g _ _ _ i wr => ∃ j : Nat, j ≤ n ∧ g = n - j ∧ i = .int .i64 j ∧ Hid (agrF number (l.drop j) = R) ∧ Below w.heap.size w wr)
  case atStart => exact ⟨0, by omega, by omega, rfl, hR, (by repeat (first | with_reducible exact Below.refl _ _ | (with_reducible refine Below.al ?_) | (with_reducible refine Below.drew ?_) | (with_reducible refine Below.set ?_ (by first | (simp; done) | omega | (simp; omega))) | (with_reducible refine Below.thru ?_ (by assumption)) | (with_reducible refine Below.chg ?_ (by assumption) (by first | (simp; done) | omega | (simp; omega)))))⟩
  case round =>
    obtain ⟨j, hj, hg, rfl, hw, hbw⟩ := hrel
    by_cases hlt : j < n
    · have hjl : j < l.length := by have := hl.out; omega
      obtain ⟨b, off, rfl, hb, hc⟩ := els_at (h.out.below hbw) hl.out (by omega)
      obtain ⟨e0, e1⟩ := hc j hjl
      have hsz := (hf.out.2 l[j] (List.getElem_mem hjl)).2
      have hstep := hw.out
      rw [List.drop_eq_getElem_cons hjl] at hstep
      simp only [agrF] at hstep
      clear hc hw
      generalize l[j] = ob at *
      obtain ⟨k, v⟩ := ob
      simp only at e0 e1 hsz hstep
      have H1 := ((St.zero w).thru hbw).alloc [.int .i64 k, .string v] 73
      have P1 := get_any k v (by omega) (wr.alloc (.cells #[.int .i64 k, .string v] 73))
      unfold FeatS at P1
      have hgl := getL_len k v.data.toList
      have hgp := getL_pos (k := k) (l := v.data.toList)
      replace H1 := Lib.hid H1
      go_wp2_with fail
      refine Calls.mono P1 ?_
      rintro e w2 ⟨lv, rfl, H2⟩
      have H3 := H1.out.add H2
      obtain ⟨fa, fc, rfl, _⟩ := St.slice (by omega) 0 H3 rfl
      clear P1 H1 H2
      generalize getN k v.data.toList = N at *
      generalize getL k v.data.toList = G at *
      generalize getE k v.data.toList = E at *
      have H4 := H3.alloc [.int .i64 N, .slice fa G.length fc] 88
      obtain ⟨z4, c4, f4⟩ := H4.box 2 rfl
      clear H3
      by_cases hE : E = 0
      · subst hE
        by_cases hk : k = 33
        · subst hk
          by_cases hN : N = number
          · subst hN
            have q : (N == N) = true := by simp
            rw [if_pos ⟨rfl, rfl, rfl⟩] at hstep
            subst hstep
            have hp := hgp rfl
            obtain ⟨b2, o2, rfl, hb2, e2⟩ := ints_at (St.rd (by omega) 1 H4 rfl) hp
            have hh : G.headD 0 = G[0] := by cases G with | nil => simp at hp | cons x t => rfl
            simp only [Nat.add_zero] at e2
            rw [← hh] at e2
            generalize G.headD 0 = g0 at *
            replace H4 := Lib.hid H4; replace hgl := Lib.hid hgl; replace hh := Lib.hid hh
            go_wp2_with fail
            go_ret2
            exact Ret.mk rfl H4.out.below
          · have q : (N == number) = false := by simp [hN]
            have hne : ¬ ((0 : Int) = 0 ∧ (33 : Int) = 33 ∧ N = number) := fun h => hN h.2.2
            replace hN := Lib.hid hN
            rw [if_neg hne] at hstep
            replace hstep := Lib.hid hstep; replace H4 := Lib.hid H4; replace hgl := Lib.hid hgl
            clear hne
            go_wp2_with fail
            go_roundg (n - (j + 1))
            case measure => omega
            case rel => exact ⟨j + 1, by omega, rfl, by go_num, hstep, H4.out.below⟩
        · have q : (k == 33) = false := by simp [hk]
          have hne : ¬ ((0 : Int) = 0 ∧ k = 33 ∧ N = number) := fun h => hk h.2.1
          replace hk := Lib.hid hk
          rw [if_neg hne] at hstep
          replace hstep := Lib.hid hstep; replace H4 := Lib.hid H4; replace hgl := Lib.hid hgl
          clear hne
          go_wp2_with fail
          go_roundg (n - (j + 1))
          case measure => omega
          case rel => exact ⟨j + 1, by omega, rfl, by go_num, hstep, H4.out.below⟩
      · have q : (E == 0) = false := by simp [hE]
        have hne : ¬ (E = 0 ∧ k = 33 ∧ N = number) := fun h => hE h.1
        replace hE := Lib.hid hE
        rw [if_neg hne] at hstep
        replace hstep := Lib.hid hstep; replace H4 := Lib.hid H4; replace hgl := Lib.hid hgl
        clear hne
        go_wp2_with fail
        go_roundg (n - (j + 1))
        case measure => omega
        case rel => exact ⟨j + 1, by omega, rfl, by go_num, hstep, H4.out.below⟩
    · obtain rfl : j = n := by omega
      have hw2 := hw.out
      rw [List.drop_of_length_le (by have := hl.out; omega)] at hw2
      simp only [agrF] at hw2
      subst hw2
      go_wp2_with fail
      go_ret2
      exact Ret.mk rfl (by repeat (first | with_reducible exact Below.refl _ _ | (with_reducible refine Below.al ?_) | (with_reducible refine Below.drew ?_) | (with_reducible refine Below.set ?_ (by first | (simp; done) | omega | (simp; omega))) | (with_reducible refine Below.thru ?_ (by assumption)) | (with_reducible refine Below.chg ?_ (by assumption) (by first | (simp; done) | omega | (simp; omega)))))

theorem meet_321 : meetV [3, 2, 1] [1, 2] = (2, true) := by decide
theorem put_10 : putE 34 10 [1, 0] = 0 ∧ putO 34 10 [1, 0] = (34, ⟨#[10, 1, 0]⟩) := by decide
theorem ans_10 : ansV [⟨10, [0, 1], some ⟨0, 0, none⟩, 2⟩] [(34, ⟨#[10, 1, 0]⟩)] = ([(33, ⟨#[10, 0, 1]⟩)], 0) := by decide
theorem agr_10 : agrF 10 [(33, ⟨#[10, 0, 1]⟩)] = (0, true) := by decide
end Go.Proofs.Ytljgmephajocaaa.Feat
