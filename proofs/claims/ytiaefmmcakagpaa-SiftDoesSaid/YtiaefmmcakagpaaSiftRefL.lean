/- The walk of Latest of the sift's answer. -/
import Derived.Test.YtiaefmmcakagpaaSiftRefD
namespace Go.Proofs.Ytiaefmmcakagpaa.Sift
set_option linter.unusedSimpArgs false
set_option linter.unusedVariables false
open Go Go.RowKit Go.Shelf Go.Proofs.Ytiaefmmcakagpaa
open Go.Proofs.Ytiaefmmcakagpaa.DockWait (El enc val encs encs_len encs_one encs_take encs_drop encs_app enc_len placed headV)
attribute [local irreducible] Calls

def lateV (l : List El) : Int := lateN (headV l).2.2 l
theorem lateN_ge : ∀ (l : List El) (a : Int), a ≤ lateN a l ∧ ∀ x ∈ l, x.2.2 ≤ lateN a l
  | [], a => ⟨Int.le_refl _, by simp⟩
  | y :: l, a => by
    obtain ⟨h1, h2⟩ := lateN_ge l (max a y.2.2)
    have e : lateN a (y :: l) = lateN (max a y.2.2) l := rfl
    rw [e]
    refine ⟨by omega, fun x hx => ?_⟩
    rcases List.mem_cons.1 hx with rfl | hx
    · omega
    · exact h2 x hx
theorem lateN_mem : ∀ (l : List El) (a : Int), lateN a l = a ∨ ∃ x ∈ l, lateN a l = x.2.2
  | [], a => .inl rfl
  | y :: l, a => by
    have e : lateN a (y :: l) = lateN (max a y.2.2) l := rfl
    rw [e]
    rcases lateN_mem l (max a y.2.2) with h | ⟨x, hx, h⟩
    · rw [h]
      by_cases hy : a ≤ y.2.2
      · exact .inr ⟨y, by simp, by omega⟩
      · exact .inl (by omega)
    · exact .inr ⟨x, List.mem_cons_of_mem _ hx, h⟩
theorem lateV_perm {L l : List El} (hp : L.Perm l) : lateV L = lateV l := by
  by_cases h0 : L = []
  · subst h0
    rw [hp.nil_eq]
  · have h1 : 0 < L.length := List.length_pos_iff.2 h0
    have h2 : 0 < l.length := by rw [← hp.length_eq]; exact h1
    have m1 := headV_mem h1
    have m2 := headV_mem h2
    obtain ⟨g1, g2⟩ := lateN_ge L (headV L).2.2
    obtain ⟨g3, g4⟩ := lateN_ge l (headV l).2.2
    have a1 : lateV L ≤ lateV l := by
      rcases lateN_mem L (headV L).2.2 with e | ⟨x, hx, e⟩
      · have := g4 _ (hp.mem_iff.1 m1); unfold lateV; omega
      · have := g4 _ (hp.mem_iff.1 hx); unfold lateV; omega
    have a2 : lateV l ≤ lateV L := by
      rcases lateN_mem l (headV l).2.2 with e | ⟨x, hx, e⟩
      · have := g2 _ (hp.mem_iff.2 m2); unfold lateV; omega
      · have := g2 _ (hp.mem_iff.2 hx); unfold lateV; omega
    omega
theorem lateV_snoc {l : List El} (h : l ≠ []) (x : El) : lateV (l ++ [x]) = max (lateV l) x.2.2 := by
  cases l with
  | nil => exact absurd rfl h
  | cons y l => unfold lateV; rw [lateN_snoc]; rfl
set_option maxRecDepth 100000 in
set_option maxHeartbeats 1000000 in
theorem rlatest_any (q : Nat) (c : Int) (l : List El) (hl : l.length ≤ 100) (w : World) (S : Nat → Prop) (h : (refA q c l).holds w S) :
    Calls Try.prog 30 #[.pointer (some ⟨q, 0, none⟩)] w (Ret w (.tuple #[.int .i64 (lateM l).1, .bool (lateM l).2])) := by
  obtain ⟨L, hp, H0⟩ := refA_parts (St.start (Sep.one h))
  have hL : L.length = l.length := hp.length_eq
  have hL9 : L.length ≤ 100 := by omega
  obtain ⟨ga, cap, H2⟩ := refS_parts H0
  have B := H2.box 0 rfl
  obtain ⟨z0, k0, f0⟩ := id B
  have R0 := St.rd (by omega) 1 H2 rfl
  have hT : lateM l = (lateV L, decide (0 < L.length)) := by
    rw [lateV_perm hp, hL]
    cases l with
    | nil => rfl
    | cons x l => simp [lateM, lateV]
  rw [hT]
  clear h H2 H0 hp hT hL hl
  replace B := Lib.hid B; replace R0 := Lib.hid R0
  go_enter Try.func30, Try.ntmps30
  go_wp2_with fail
  go_loopg [4, 5] L.length (fun g v4 v5 wr => ∃ j : Nat, j ≤ L.length ∧ g = L.length - j ∧ v5 = .int .i64 j ∧ v4 = .int .i64 (lateV (L.take j)) ∧ Below w.heap.size w wr)
  case atStart => exact ⟨0, by omega, by omega, rfl, rfl, Below.refl _ _⟩
  case round =>
    obtain ⟨j, hj, hg, rfl, rfl, hbw⟩ := hrel
    obtain ⟨z2, k2, f2⟩ := Box.below B.out hbw
    clear k0 f0 z0
    by_cases hlt : j < L.length
    · obtain ⟨b, off, rfl, hb, hc⟩ := wait_at (R0.out.below hbw) rfl (by omega)
      obtain ⟨e0, e1, e2⟩ := hc j hlt
      clear hc
      have t1 : (0 : Int) ≤ j ∧ (j : Int) < L.length := ⟨by omega, by omega⟩
      have hsn : j ≠ 0 → lateV (L.take (j + 1)) = max (lateV (L.take j)) L[j].2.2 := fun hj0 => by
        rw [List.take_succ_eq_append_getElem hlt, lateV_snoc]
        intro e
        have := congrArg List.length e
        rw [List.length_take, List.length_nil] at this
        omega
      have hs0 : j = 0 → lateV (L.take (j + 1)) = L[j].2.2 := fun hj0 => by
        subst hj0
        rw [List.take_succ_eq_append_getElem hlt, List.take_zero, List.nil_append]
        unfold lateV
        simp [headV, lateN]
      generalize lateV (L.take j) = a at *
      generalize L[j] = x at *
      obtain ⟨x1, x2, x3⟩ := x
      simp only at e0 e1 e2 hsn hs0
      by_cases h0 : j = 0
      · have q0 : decide ((j : Int) = 0) = true := decide_eq_true (by omega)
        have q0' : ((j : Int) == 0) = true := by simp; omega
        have hs := hs0 h0
        replace h0 := Lib.hid h0; replace hg := Lib.hid hg; replace hs := Lib.hid hs; replace hsn := Lib.hid hsn; replace hs0 := Lib.hid hs0
        go_wp2_with fail
        go_roundg (L.length - (j + 1))
        case measure => have := hg.out; omega
        case rel => exact ⟨j + 1, by omega, rfl, by go_num, by rw [hs.out], hbw⟩
      · have q0 : decide ((j : Int) = 0) = false := decide_eq_false (by omega)
        have q0' : ((j : Int) == 0) = false := by simp; omega
        have hs := hsn h0
        by_cases hq : a < x3
        · have q1 : decide (a < x3) = true := decide_eq_true hq
          rw [show max a x3 = x3 by omega] at hs
          replace h0 := Lib.hid h0; replace hg := Lib.hid hg; replace hs := Lib.hid hs; replace hsn := Lib.hid hsn; replace hs0 := Lib.hid hs0; replace hq := Lib.hid hq
          go_wp2_with fail
          go_roundg (L.length - (j + 1))
          case measure => have := hg.out; omega
          case rel => exact ⟨j + 1, by omega, rfl, by go_num, by rw [hs.out], hbw⟩
        · have q1 : decide (a < x3) = false := decide_eq_false hq
          rw [show max a x3 = a by omega] at hs
          replace h0 := Lib.hid h0; replace hg := Lib.hid hg; replace hs := Lib.hid hs; replace hsn := Lib.hid hsn; replace hs0 := Lib.hid hs0; replace hq := Lib.hid hq
          go_wp2_with fail
          go_roundg (L.length - (j + 1))
          case measure => have := hg.out; omega
          case rel => exact ⟨j + 1, by omega, rfl, by go_num, by rw [hs.out], hbw⟩
    · have hj2 : j = L.length := by omega
      rw [hj2, List.take_length]
      clear hj2
      obtain ⟨hd, hd2⟩ : ∃ hd, decide ((0 : Int) < (L.length : Int)) = hd := ⟨_, rfl⟩
      have hd3 : decide (0 < L.length) = hd := by rw [← hd2]; congr 1; simp only [eq_iff_iff]; omega
      rw [hd3]
      replace hg := Lib.hid hg; replace hd3 := Lib.hid hd3
      go_wp2_with fail
      refine wp_region_near (by kernel_rfl) (by kernel_rfl) ?_
      intro hs
      repeat (go_big_quiet_step (fail))
      refine wpQuiet_nil ?_
      clear hs
      intro w2 hb2
      go_wp2_with fail
      go_ret2
      exact Ret.mk rfl (by repeat (first | with_reducible exact Below.refl _ _ | (with_reducible refine Below.al ?_) | (with_reducible refine Below.drew ?_) | (with_reducible refine Below.set ?_ (by first | (simp; done) | omega | (simp; omega))) | (with_reducible refine Below.thru ?_ (by assumption)) | (with_reducible refine Below.chg ?_ (by assumption) (by first | (simp; done) | omega | (simp; omega)))))
end Go.Proofs.Ytiaefmmcakagpaa.Sift
