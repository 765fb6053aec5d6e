/- The walk of the statement DockSweeps. -/
import Derived.Test.YtfdijoaclpnccaaDockSweepInt
import Derived.Test.YtfdijoaclpnccaaDockWorks
namespace Go.Proofs.Ytfdijoaclpnccaa.DockLaw
set_option linter.unusedSimpArgs false
set_option linter.unusedVariables false
open Go Go.RowKit Go.Proofs.Ytfdijoaclpnccaa Go.Proofs.Ytfdijoaclpnccaa.DockSInt
attribute [local irreducible] Calls

theorem outs_pure (p : Int → Bool) : ∀ (l pre : List El), outs (fun _ => p) pre l = l.filter p
  | [], _ => rfl
  | x :: l, pre => by
    rw [outs, outs_pure p l, List.filter_cons]
    split <;> rfl
theorem rests_pure (p : Int → Bool) : ∀ (l pre : List El), rests (fun _ => p) pre l = l.filter fun x => !p x
  | [], _ => rfl
  | x :: l, pre => by
    rw [rests, rests_pure p l, List.filter_cons]
    cases p x <;> rfl
def within (lo hi : Int) (x : Int) : Bool := decide (lo ≤ x) && decide (x ≤ hi)
theorem within_any (fb tb : Nat) (lo hi x : Int) (w : World) (S : Nat → Prop) (h : (sepA [cellA fb [.int .i64 lo], cellA tb [.int .i64 hi]]).holds w S) :
    Calls Try.prog 56 #[.int .i64 x, .pointer (some ⟨fb, 0, none⟩), .pointer (some ⟨tb, 0, none⟩)] w (Fin w S (.bool (within lo hi x)) [sepA [cellA fb [.int .i64 lo], cellA tb [.int .i64 hi]]]) := by
  have H0 := St.start (Sep.one h)
  have H := St.unsep 0 H0 rfl
  obtain ⟨z0, c0, f0⟩ := H.box 0 rfl
  obtain ⟨z1, c1, f1⟩ := H.box 1 rfl
  clear h H
  replace H0 := Lib.hid H0
  unfold within
  go_enter Try.func56, Try.ntmps56
  by_cases q : lo ≤ x
  · have q1 : decide (lo ≤ x) = true := decide_eq_true q
    rw [q1]
    go_wp2_with fail
    go_ret
    exact ⟨by simp, H0.out⟩
  · have q1 : decide (lo ≤ x) = false := decide_eq_false q
    rw [q1]
    go_wp2_with fail
    go_ret
    exact ⟨rfl, H0.out⟩
theorem filter_take {p : Int → Bool} {L : List Int} {j : Nat} (h : j < L.length) : (L.take (j + 1)).filter p = (L.take j).filter p ++ (if p L[j] then [L[j]] else []) := by
  rw [List.take_succ_eq_append_getElem h, List.filter_append]
  congr 1
  cases hp : p L[j] <;> simp [hp]

set_option maxRecDepth 100000 in
set_option maxHeartbeats 1000000 in
theorem sweeps_walk (a : Option Addr) (n cap : Nat) (lo : Int) (wlo : (Lit.int .i64 lo).wf = true) (up : Int) (wup : (Lit.int .i64 up).wf = true) (w : World) (h0 : Fits w (.slice 1 (.int .i64)) [.slice a n cap]) :
    Calls Try.prog 10 #[.slice a n cap, .int .i64 lo, .int .i64 up] w (Ret w (.bool true)) := by
  obtain ⟨hn, _, L, hl, hgood, hL⟩ := ints_in h0
  obtain ⟨i0, hi, hz, hz1, hz2⟩ := info_parts DelInt.el_info
  unfold maxLen at hn
  have H0 := ((St.zero w).alloc [.int .i64 lo] 3).alloc [.int .i64 up] 3
  simp only [World.size_alloc] at H0
  clear h0
  replace hl := Lib.hid hl; replace hL := Lib.hid hL; replace hgood := Lib.hid hgood; replace H0 := Lib.hid H0
  go_enter Try.func10, Try.ntmps10
  go_wp2_with fail
  refine Calls.mono (works_law _) ?_
  rintro e w1 ⟨rfl, hb1⟩
  have z1 := Below.size hb1; try simp only [World.size_alloc, World.size_setCell, World.size_drew] at z1
  have H1 := H0.out.thru hb1
  clear H0
  by_cases h300 : 300 < n
  · have q : decide ((300 : Int) < n) = true := decide_eq_true (by omega)
    replace H1 := Lib.hid H1
    go_wp2_with fail
    go_ret
    exact H1.out.ret rfl
  have qq : decide ((300 : Int) < n) = false := decide_eq_false (by omega)
  have q300 : n ≤ 300 := by omega
  replace H1 := Lib.hid H1
  go_wp2_with fail
  refine Calls.mono (new_any 300 _) ?_
  rintro e w2 ⟨d, rfl, H2⟩
  have H3 := ((H1.out.add H2).row_nil (size := 1)).row_nil (size := 1)
  clear H2 H1
  replace H3 := Lib.hid H3
  go_wp2_with fail
  go_loopg [8, 9, 10] n (fun g ov sv i wr => ∃ j : Nat, j ≤ n ∧ g = n - j ∧ i = .int .i64 j ∧ St w none0 wr [rowA 1 ov ((L.take j).filter (within lo up)).length (encs ((L.take j).filter (within lo up))), rowA 1 sv ((L.take j).filter fun x => !within lo up x).length (encs ((L.take j).filter fun x => !within lo up x)), dockA d 300 (L.take j), cellA (w.heap.size + 1) [.int .i64 up], cellA w.heap.size [.int .i64 lo]])
  case atStart => exact ⟨0, by omega, by omega, rfl, H3.out⟩
  case round =>
    obtain ⟨ov, hov⟩ : ∃ v, v = u8 := ⟨_, rfl⟩
    subst hov
    obtain ⟨sv, hsv⟩ : ∃ v, v = u9 := ⟨_, rfl⟩
    subst hsv
    obtain ⟨j, hj, hg, rfl, hst⟩ := hrel
    obtain ⟨oa, oc, rfl, _, _, _, _⟩ := St.slice (by omega) 0 hst rfl
    obtain ⟨sa, sc, rfl, _, _, _, _⟩ := St.slice (by omega) 1 hst rfl
    clear H3
    by_cases hlt : j < n
    · have hjl : j < L.length := by have := hl.out; omega
      obtain ⟨b, off, rfl, hb, hc⟩ := Go.Proofs.Ytfdijoaclpnccaa.DockLaw.ints_at hL.out hl.out (by omega)
      have ew := hc j hjl
      have e0 := ((Below.blk hst.below hb).1 (off + j)).trans ew
      have z0 : b < wr.heap.size := Nat.lt_of_lt_of_le hb hst.size
      have htk : L.take j ++ [L[j]] = L.take (j + 1) := (List.take_succ_eq_append_getElem hjl).symm
      have hlj : (L.take j).length = j := by rw [List.length_take]; omega
      have P1 := Calls.st_at 2 hst rfl fun S h => push_any d 300 (L.take j) L[j] _ S h (by omega)
      rw [hlj, if_pos (by omega), htk, decide_eq_true (show (j : Int) < 300 by omega)] at P1
      have hf := filter_take (p := within lo up) hjl
      have hr := filter_take (p := fun x => !within lo up x) hjl
      have hfl : ((L.take j).filter (within lo up)).length ≤ 300 := Nat.le_trans (List.length_filter_le _ _) (by rw [List.length_take]; omega)
      have hrl : ((L.take j).filter fun x => !within lo up x).length ≤ 300 := Nat.le_trans (List.length_filter_le _ _) (by rw [List.length_take]; omega)
      simp only [val] at P1
      clear hc hst htk hlj
      generalize L[j] = u at *
      replace P1 := Lib.hid P1; replace ew := Lib.hid ew; replace hf := Lib.hid hf; replace hr := Lib.hid hr
      go_wp2_with fail
      refine Calls.mono P1.out ?_
      rintro e w3 ⟨rfl, H3⟩
      clear P1
      have e3 := ((Below.blk H3.below hb).1 (off + j)).trans ew.out
      have z3 : b < w3.heap.size := Nat.lt_of_lt_of_le hb H3.size
      obtain ⟨zu, cu, fu⟩ := H3.box 3 rfl
      obtain ⟨zl, cl, fl⟩ := H3.box 4 rfl
      replace H3 := Lib.hid H3
      by_cases q1 : lo ≤ u
      · have d1 : decide (lo ≤ u) = true := decide_eq_true q1
        by_cases q2 : u ≤ up
        · have d2 : decide (u ≤ up) = true := decide_eq_true q2
          have hw : within lo up u = true := by simp [within, q1, q2]
          replace hf := hf.out
          replace hr := hr.out
          rw [hw] at hf hr
          simp only [Bool.not_true, Bool.false_eq_true, if_false, if_true, List.append_nil] at hf hr
          replace hf := Lib.hid hf; replace hr := Lib.hid hr; replace hw := Lib.hid hw
          go_wp2_with fail
          refine wp_region_near (by kernel_rfl) (by kernel_rfl) ?_
          intro hs
          repeat (go_big_quiet_step (fail))
          refine wpQuiet_nil ?_
          clear hs
          intro w4 hb4
          obtain ⟨c4, f4⟩ := Below.blk hb4 (b := b) (by first | (simp; done) | omega | (simp; omega))
          have z4 : b < w4.heap.size := Nat.lt_of_lt_of_le z3 hb4.size
          replace H3 := H3.out.thru hb4
          replace H3 := Lib.hid H3
          go_wp2_with (at_builtin; (refine wpList_appS rfl (.tmp 48) (.tmp 53) _ rfl 3 i0 _ 1 8 Try.underlying71 hi hz hz1 hz2 rfl (by omega) 1 _ _ (encs ((L.take j).filter (within lo up))) rfl H3.out rfl 1 1 [.int .i64 u] rfl rfl (by simp [Value.oneCell']) (by omega) (by omega) ?_; intro wv5 w5 H5; obtain ⟨g5, o5, c5, rfl⟩ := row_some (H5.row 0 rfl) (by omega); replace H5 := Lib.hid H5))
          go_roundg (n - (j + 1))
          case measure => omega
          case rel =>
            refine ⟨j + 1, by omega, rfl, by go_num, ?_⟩
            rw [hf.out, hr.out, List.length_append, ← encs_app]
            exact H5.out.arr [0, 2, 1, 3, 4] rfl
        · have d2 : decide (u ≤ up) = false := decide_eq_false q2
          have hw : within lo up u = false := by simp [within, q1, q2]
          replace hf := hf.out
          replace hr := hr.out
          rw [hw] at hf hr
          simp only [Bool.not_false, Bool.false_eq_true, if_false, if_true, List.append_nil] at hf hr
          replace hf := Lib.hid hf; replace hr := Lib.hid hr; replace hw := Lib.hid hw
          go_wp2_with fail
          refine wp_region_near (by kernel_rfl) (by kernel_rfl) ?_
          intro hs
          repeat (go_big_quiet_step (fail))
          refine wpQuiet_nil ?_
          clear hs
          intro w4 hb4
          obtain ⟨c4, f4⟩ := Below.blk hb4 (b := b) (by first | (simp; done) | omega | (simp; omega))
          have z4 : b < w4.heap.size := Nat.lt_of_lt_of_le z3 hb4.size
          replace H3 := H3.out.thru hb4
          replace H3 := Lib.hid H3
          go_wp2_with (at_builtin; (refine wpList_appS rfl (.tmp 55) (.tmp 60) _ rfl 3 i0 _ 1 8 Try.underlying71 hi hz hz1 hz2 rfl (by omega) 2 _ _ (encs ((L.take j).filter fun x => !within lo up x)) rfl H3.out rfl 1 1 [.int .i64 u] rfl rfl (by simp [Value.oneCell']) (by omega) (by omega) ?_; intro wv5 w5 H5; obtain ⟨g5, o5, c5, rfl⟩ := row_some (H5.row 0 rfl) (by omega); replace H5 := Lib.hid H5))
          go_roundg (n - (j + 1))
          case measure => omega
          case rel =>
            refine ⟨j + 1, by omega, rfl, by go_num, ?_⟩
            rw [hf.out, hr.out, List.length_append, ← encs_app]
            exact H5.out.arr [2, 0, 1, 3, 4] rfl
      · have d1 : decide (lo ≤ u) = false := decide_eq_false q1
        have hw : within lo up u = false := by simp [within, q1]
        replace hf := hf.out
        replace hr := hr.out
        rw [hw] at hf hr
        simp only [Bool.not_false, Bool.false_eq_true, if_false, if_true, List.append_nil] at hf hr
        replace hf := Lib.hid hf; replace hr := Lib.hid hr; replace hw := Lib.hid hw
        go_wp2_with fail
        refine wp_region_near (by kernel_rfl) (by kernel_rfl) ?_
        intro hs
        repeat (go_big_quiet_step (fail))
        refine wpQuiet_nil ?_
        clear hs
        intro w4 hb4
        obtain ⟨c4, f4⟩ := Below.blk hb4 (b := b) (by first | (simp; done) | omega | (simp; omega))
        have z4 : b < w4.heap.size := Nat.lt_of_lt_of_le z3 hb4.size
        replace H3 := H3.out.thru hb4
        replace H3 := Lib.hid H3
        go_wp2_with (at_builtin; (refine wpList_appS rfl (.tmp 55) (.tmp 60) _ rfl 3 i0 _ 1 8 Try.underlying71 hi hz hz1 hz2 rfl (by omega) 2 _ _ (encs ((L.take j).filter fun x => !within lo up x)) rfl H3.out rfl 1 1 [.int .i64 u] rfl rfl (by simp [Value.oneCell']) (by omega) (by omega) ?_; intro wv5 w5 H5; obtain ⟨g5, o5, c5, rfl⟩ := row_some (H5.row 0 rfl) (by omega); replace H5 := Lib.hid H5))
        go_roundg (n - (j + 1))
        case measure => omega
        case rel =>
          refine ⟨j + 1, by omega, rfl, by go_num, ?_⟩
          rw [hf.out, hr.out, List.length_append, ← encs_app]
          exact H5.out.arr [2, 0, 1, 3, 4] rfl
    · obtain rfl : j = n := by omega
      have hLt : L.take j = L := List.take_of_length_le (by have := hl.out; omega)
      rw [hLt] at hst ⊢
      have hLl := hl.out
      have HJ := (St.join [_, _] [_, _, _] (hst.arr [4, 3, 2, 0, 1] rfl)).arr [1, 0, 2, 3] rfl
      have HJ2 := St.join [_, _] [_, _] HJ
      obtain ⟨S8, h8, _, hback⟩ := HJ2.at 0 rfl
      have P8 := sweep_any d 300 L (by omega) 56 #[.pointer (some ⟨w.heap.size, 0, none⟩), .pointer (some ⟨w.heap.size + 1, 0, none⟩)]
        (enters_of Try.func56 (by kernel_rfl) rfl) (fun _ => within lo up) (fun _ => sepA [cellA w.heap.size [.int .i64 lo], cellA (w.heap.size + 1) [.int .i64 up]])
        (fun pre x suf w S _ h => within_any _ _ lo up x w S h) _ S8 h8
      rw [outs_pure, rests_pure] at P8
      clear hst HJ HJ2 h8
      have hol : (L.filter (within lo up)).length ≤ 300 := Nat.le_trans (List.length_filter_le _ _) (by omega)
      have hsl : (L.filter fun x => !within lo up x).length ≤ 300 := Nat.le_trans (List.length_filter_le _ _) (by omega)
      generalize hO : L.filter (within lo up) = O at *
      generalize hT : L.filter (fun x => !within lo up x) = T at *
      replace P8 := Lib.hid P8; replace hback := Lib.hid hback; replace hO := Lib.hid hO; replace hT := Lib.hid hT
      go_wp2_with fail
      refine Calls.mono P8.out ?_
      rintro e w4 ⟨gv, rfl, h4⟩
      have H4 := hback.out _ _ h4
      obtain ⟨ga, gc, rfl, _, _, _, hRg⟩ := St.slice (by omega) 0 H4 rfl
      have P9 := ints_any O O.length rfl (by unfold maxLen; omega) ga gc oa oc w4 (by rw [← encs_i64s]; exact hRg) (by rw [← encs_i64s]; exact St.rd (by omega) 3 H4 rfl)
      clear P8 hback h4 hRg
      replace H4 := Lib.hid H4; replace P9 := Lib.hid P9
      go_wp2_with fail
      refine Calls.mono (P9.out) ?_
      rintro e w5 ⟨rfl, hb5⟩
      have z5 := Below.size hb5; try simp only [World.size_alloc, World.size_setCell, World.size_drew] at z5
      have H5 := H4.out.thru hb5
      have P10 := Calls.rd_at 1 H5 rfl fun S h => len_any d 300 T _ S h
      clear P9 H4 H5
      replace P10 := Lib.hid P10
      go_wp2_with fail
      refine Calls.mono P10.out ?_
      rintro e w6 ⟨rfl, H6⟩
      clear P10
      have H7 := H6.arr [1, 4, 0, 2, 3] rfl |>.drops 2
      clear H6
      replace H7 := Lib.hid H7
      go_wp2_with fail
      go_loopg [12, 13, 14] T.length (fun g i _ _ wr => ∃ k : Nat, k ≤ T.length ∧ g = T.length - k ∧ i = .int .i64 k ∧ St w none0 wr [dockA d 300 (T.drop k), rowA 1 (.slice sa T.length sc) T.length (encs T)])
      case atStart => exact ⟨0, by omega, by omega, rfl, H7.out⟩
      case round =>
        obtain ⟨k, hk, hg, rfl, hst⟩ := hrel
        clear H7
        by_cases hlt : k < T.length
        · rw [List.drop_eq_getElem_cons hlt] at hst
          have P2 := Calls.st_at 0 hst rfl fun S h => pull_cons d 300 T[k] (T.drop (k + 1)) _ S h
          clear hst
          generalize hu : T[k] = u at *
          replace P2 := Lib.hid P2; replace hu := Lib.hid hu
          go_wp2_with fail
          refine Calls.mono P2.out ?_
          rintro e w4 ⟨rfl, H4⟩
          have hR4 := St.rd (by omega) 1 H4 rfl
          rw [encs_i64s] at hR4
          obtain ⟨b4, o4, rfl, zb4, hc4⟩ := Go.Proofs.Ytfdijoaclpnccaa.DockLaw.ints_at hR4 rfl (by omega)
          have e4 := hc4 k hlt
          rw [hu.out] at e4
          clear P2 hR4 hc4
          replace H4 := Lib.hid H4
          go_wp2_with fail
          go_roundg (T.length - (k + 1))
          case measure => omega
          case rel => exact ⟨k + 1, by omega, rfl, by go_num, H4.out⟩
        · obtain rfl : k = T.length := by omega
          rw [List.drop_length] at hst
          have P3 := Calls.rd_at 0 hst rfl fun S h => len_any d 300 [] _ S h
          rw [show ((([] : List El).length : Nat) : Int) = 0 from rfl] at P3
          clear hst
          replace P3 := Lib.hid P3
          go_wp2_with fail
          refine Calls.mono P3.out ?_
          rintro e w5 ⟨rfl, H5⟩
          replace H5 := Lib.hid H5
          go_wp2_with fail
          go_ret
          exact H5.out.ret rfl
end Go.Proofs.Ytfdijoaclpnccaa.DockLaw
