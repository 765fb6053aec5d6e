/- The walks of the document's answers: what was lost, and what lies within. -/
import Derived.Test.YthodfihdmhkgeaaChanLost
namespace Go.Proofs.Ythodfihdmhkgeaa.Chan
set_option linter.unusedSimpArgs false
set_option linter.unusedVariables false
open Go Go.RowKit Go.Proofs.Ythodfihdmhkgeaa
attribute [local irreducible] Calls

theorem any_take {p : Dg → Bool} {l : List Dg} {k : Nat} (h : k < l.length) : (l.take (k + 1)).any p = ((l.take k).any p || p l[k]) := by
  rw [List.take_succ_eq_append_getElem h, List.any_append]; simp

set_option maxRecDepth 100000 in
set_option maxHeartbeats 1000000 in
theorem rlost_any (sent got : List Dg) (n m : Nat) (hl : sent.length = n) (hn : n ≤ 100000) (gl : got.length = m) (hm : m ≤ maxLen) (a : Option Addr) (cap : Nat) (a' : Option Addr) (cap' : Nat) (w : World) (h : Rd w a (dgs sent)) (g : Rd w a' (dgs got)) :
    Calls Try.prog 25 #[.slice a n cap, .slice a' m cap'] w (RetL w (lostL sent got)) := by
  obtain ⟨i0, hi, hz, hz1, hz2⟩ := info_parts int_info
  have hm' := hm
  unfold maxLen at hm
  have H := Lib.hid h
  have HL := Lib.hid hl
  have G := Lib.hid g
  have GL := Lib.hid gl
  clear h hl g gl
  go_enter Try.func25, Try.ntmps25
  go_wp2_with fail
  go_loopg [5, 6, 7, 8] n (fun g v i _ _ wr => ∃ (k : Nat) (L : List Int), k ≤ n ∧ g = n - k ∧ i = .int .i64 k ∧ Hid (L = lostL (sent.take k) got) ∧ L.length ≤ k ∧ St w none0 wr [rowA 1 v L.length (i64s L)])
  case atStart => exact ⟨0, [], by omega, by omega, rfl, rfl, by simp, (St.zero w).row_nil⟩
  case round =>
    obtain ⟨tv, htv⟩ : ∃ tv, tv = u5 := ⟨_, rfl⟩
    subst htv
    obtain ⟨k, L, hk, hg, rfl, hL, hLk, hst⟩ := hrel
    by_cases hlt : k < n
    · have hkl : k < sent.length := by have := HL.out; omega
      obtain ⟨wo, hwo⟩ : ∃ wo : World, wo = wr := ⟨_, rfl⟩
      subst hwo
      obtain ⟨b, off, rfl, hb, hc⟩ := dgs_at H.out HL.out (by omega)
      have HC := Lib.hid (hc k hkl)
      clear hc
      have hnx := lost_take got hkl
      generalize sent[k] = d at *
      replace hnx := Lib.hid hnx
      replace hst := Lib.hid hst
      go_wp2_with fail
      go_loopg [7, 8] m (fun g f j wr => ∃ (j' : Nat) (fb : Bool), j' ≤ m ∧ g = m - j' ∧ j = .int .i64 j' ∧ f = .bool fb ∧ Hid (fb = numB (got.take j') d.1) ∧ St w none0 wr [rowA 1 tv L.length (i64s L)])
      case atStart => exact ⟨0, false, by omega, by omega, rfl, rfl, rfl, hst.out⟩
      case round =>
        obtain ⟨j, fb, hj, hg', rfl, rfl, hfb, hst'⟩ := hrel
        have hbw := hst'.below
        have zw := hbw.size
        replace hst' := Lib.hid hst'
        obtain ⟨e0, e1⟩ := HC.out
        rw [← (Below.blk hbw hb).1] at e0 e1
        have hb' : b < wr.heap.size := Nat.lt_of_lt_of_le hb zw
        by_cases hjm : j < m
        · have hjl : j < got.length := by have := GL.out; omega
          obtain ⟨b2, off2, rfl, hb2, hc2⟩ := dgs_at (G.out.below hbw) GL.out (by omega)
          obtain ⟨g0, g1⟩ := hc2 j hjl
          clear hc2
          have hany := any_take (p := fun g : Dg => g.1 == d.1) hjl
          generalize got[j] = y at *
          replace hany := Lib.hid hany
          cases fb
          · have hf : Hid ((y.1 == d.1) = numB (got.take (j + 1)) d.1) := by
              show _ = _
              unfold numB at hfb ⊢
              rw [hany.out, ← hfb.out]
              simp
            go_wp2_with fail
            refine wp_region_near (by kernel_rfl) (by kernel_rfl) ?_
            intro hs
            repeat (go_big_quiet_step (fail))
            refine wpQuiet_nil ?_
            clear hs
            intro w2 hb2
            have hst2 := hst'.out.thru hb2
            go_wp2_with fail
            go_roundg (m - (j + 1))
            case measure => omega
            case rel => exact ⟨j + 1, _, by omega, rfl, by go_num, rfl, hf, hst2⟩
          · have hf : Hid (true = numB (got.take (j + 1)) d.1) := by
              show _ = _
              unfold numB at hfb ⊢
              rw [hany.out, ← hfb.out]
              simp
            go_wp2_with fail
            refine wp_region_near (by kernel_rfl) (by kernel_rfl) ?_
            intro hs
            repeat (go_big_quiet_step (fail))
            refine wpQuiet_nil ?_
            clear hs
            intro w2 hb2
            have hst2 := hst'.out.thru hb2
            go_wp2_with fail
            go_roundg (m - (j + 1))
            case measure => omega
            case rel => exact ⟨j + 1, true, by omega, rfl, by go_num, rfl, hf, hst2⟩
        · have hq : fb = numB got d.1 := by rw [hfb.out, List.take_of_length_le (by have := GL.out; omega)]
          clear hfb
          cases fb
          · have hL' : Hid (L ++ [d.1] = lostL (sent.take (k + 1)) got) := by
              show _ = _
              rw [hnx.out, ← hL.out, ← hq]
              rfl
            clear hq
            go_wp2_with (at_builtin; (refine wpList_appS rfl (.tmp 37) (.tmp 43) _ rfl 3 i0 _ 1 8 Try.underlying27 hi hz hz1 hz2 rfl (by omega) 0 tv L.length _ rfl hst'.out rfl 1 1 [.int .i64 d.1] rfl rfl (by intro u hu; simp at hu; subst hu; rfl) (by omega) (by omega) ?_; intro v' w5 H5))
            rw [i64s_app] at H5
            replace H5 := Lib.hid H5
            go_wp2_with fail
            go_roundg (n - (k + 1))
            case measure => omega
            case rel => exact ⟨k + 1, L ++ [d.1], by omega, rfl, by go_num, hL', by simp; omega, by rw [List.length_append]; exact H5.out⟩
          · have hL' : Hid (L = lostL (sent.take (k + 1)) got) := by
              show _ = _
              rw [hnx.out, ← hL.out, ← hq]
              simp
            clear hq
            go_wp2_with fail
            go_roundg (n - (k + 1))
            case measure => omega
            case rel => exact ⟨k + 1, L, by omega, rfl, by go_num, hL', by omega, hst'.out⟩
    · have hf : L = lostL sent got := by rw [hL.out, List.take_of_length_le (by have := HL.out; omega)]
      replace hf := Lib.hid hf
      go_wp2_with fail
      go_ret
      rw [← hf.out]
      exact RetL.mk hst rfl
end Go.Proofs.Ythodfihdmhkgeaa.Chan
