/- The walk of the control's answer: Put. -/
import Derived.Test.YtljgmephajocaaaControlRef
namespace Go.Proofs.Ytljgmephajocaaa.Ctl
set_option linter.unusedSimpArgs false
set_option linter.unusedVariables false
open Go Go.RowKit Go.Proofs.Ytljgmephajocaaa Go.Proofs.Ytljgmephajocaaa.DockCtl
attribute [local irreducible] Calls
theorem ref_shut' {W w : World} {S : Nat → Prop} {b n : Nat} {l : List El} {next since heard : Int} {v : Value} {r : List Asn} (hn : l.length = n) (h : St W S w (cellA b [v, .int .i64 next, .int .i64 since, .int .i64 heard] :: rowA 4 v n (encs l) :: r)) : St W S w (refA b ⟨l, next, since, heard⟩ :: r) := by
  subst hn
  exact ref_shut h

set_option maxRecDepth 100000 in
theorem rput_any (q : Nat) (s : Ln) (c : El) (w : World) (S : Nat → Prop) (h : (refA q s).holds w S) (hl : s.l.length ≤ 8) (h0 : 0 ≤ s.next) (h1 : s.next ≤ 1000000) :
    Calls Try.prog 19 #[.pointer (some ⟨q, 0, none⟩), val c] w (Fin w S (.tuple #[.int .i64 (putN s c), .int .i64 (putE s c)]) [refA q (putS s c)]) := by
  obtain ⟨l, next, since, heard⟩ := s
  obtain ⟨n, k, a, p⟩ := c
  have H0 : St w S w [refA q ⟨l, next, since, heard⟩] := St.start (Sep.one h)
  have hq : q < w.heap.size := by
    obtain ⟨_, _, H3⟩ := ref_parts H0
    exact (H3.box 0 rfl).lt
  have HE := H0.skip (.cells #[.int .i64 n, .int .i64 k, .int .i64 a, .int .i64 p] 29)
  obtain ⟨ga, cap, H⟩ := ref_parts H0
  obtain ⟨z, cc, f⟩ := H.box 0 rfl
  have R := St.rd (by omega) 1 H rfl
  simp only at hl h0 h1 cc R
  unfold putN putS putE badC val
  simp only
  clear h
  by_cases g1 : k < 1
  · have q1 : decide (k < 1) = true := decide_eq_true g1
    simp only [if_pos (Or.inl g1 : k < 1 ∨ 4 < k), show ¬ (7 : Int) = 0 by omega, if_false]
    replace H := Lib.hid H; replace H0 := Lib.hid H0
    go_enter Try.func19, Try.ntmps19
    go_wp2_with fail
    go_ret2
    exact ⟨rfl, H0.out.skip _⟩
  · have q1 : decide (k < 1) = false := decide_eq_false g1
    by_cases g2 : 4 < k
    · have q2 : decide (4 < k) = true := decide_eq_true g2
      simp only [if_pos (Or.inr g2 : k < 1 ∨ 4 < k), show ¬ (7 : Int) = 0 by omega, if_false]
      replace H := Lib.hid H; replace H0 := Lib.hid H0
      go_enter Try.func19, Try.ntmps19
      go_wp2_with fail
      go_ret2
      exact ⟨rfl, H0.out.skip _⟩
    · have q2 : decide (4 < k) = false := decide_eq_false g2
      simp only [if_neg (show ¬ (k < 1 ∨ 4 < k) by omega)]
      by_cases gb : a < 0 ∨ 255 < a ∨ p < 0 ∨ 255 < p
      · simp only [if_pos gb, show ¬ (3 : Int) = 0 by omega, if_false]
        by_cases g3 : a < 0
        · have q3 : decide (a < 0) = true := decide_eq_true g3
          replace H := Lib.hid H; replace H0 := Lib.hid H0
          go_enter Try.func19, Try.ntmps19
          go_wp2_with fail
          go_ret2
          exact ⟨rfl, H0.out.skip _⟩
        · have q3 : decide (a < 0) = false := decide_eq_false g3
          by_cases g4 : 255 < a
          · have q4 : decide (255 < a) = true := decide_eq_true g4
            replace H := Lib.hid H; replace H0 := Lib.hid H0
            go_enter Try.func19, Try.ntmps19
            go_wp2_with fail
            go_ret2
            exact ⟨rfl, H0.out.skip _⟩
          · have q4 : decide (255 < a) = false := decide_eq_false g4
            by_cases g5 : p < 0
            · have q5 : decide (p < 0) = true := decide_eq_true g5
              replace H := Lib.hid H; replace H0 := Lib.hid H0
              go_enter Try.func19, Try.ntmps19
              go_wp2_with fail
              go_ret2
              exact ⟨rfl, H0.out.skip _⟩
            · have q5 : decide (p < 0) = false := decide_eq_false g5
              have q6 : decide (255 < p) = true := decide_eq_true (by omega)
              replace H := Lib.hid H; replace H0 := Lib.hid H0
              go_enter Try.func19, Try.ntmps19
              go_wp2_with fail
              go_ret2
              exact ⟨rfl, H0.out.skip _⟩
      · have q3 : decide (a < 0) = false := decide_eq_false (by omega)
        have q4 : decide (255 < a) = false := decide_eq_false (by omega)
        have q5 : decide (p < 0) = false := decide_eq_false (by omega)
        have q6 : decide (255 < p) = false := decide_eq_false (by omega)
        simp only [if_neg gb, if_true]
        clear gb
        by_cases h8 : 8 ≤ l.length
        · have q8 : decide (8 ≤ (l.length : Int)) = true := decide_eq_true (by omega)
          simp only [if_pos h8, show ¬ (6 : Int) = 0 by omega, if_false]
          replace H := Lib.hid H; replace H0 := Lib.hid H0
          go_enter Try.func19, Try.ntmps19
          go_wp2_with fail
          go_ret2
          exact ⟨rfl, H0.out.skip _⟩
        · have q8 : decide (8 ≤ (l.length : Int)) = false := decide_eq_false (by omega)
          simp only [if_neg h8, if_true]
          have H3 := H.alloc [.int .i64 next, .int .i64 k, .int .i64 a, .int .i64 p] 29
          obtain ⟨i0, hi, hz, hz1, hz2⟩ := info_parts DelCtl.el_info
          have ga0 : ga = none → l.length = 0 := by
            intro e
            subst e
            rcases R with R | ⟨_, _, e, _⟩
            · have := congrArg List.length R
              rw [encs_len, List.length_nil] at this
              omega
            · cases e
          replace H := Lib.hid H; replace H0 := Lib.hid H0; replace H3 := Lib.hid H3; replace HE := Lib.hid HE; replace R := Lib.hid R; replace ga0 := Lib.hid ga0
          go_enter Try.func19, Try.ntmps19
          go_wp2_with fail
          refine wp_region_to 12 [0, 2, 3, 4, 5, 7] [true, false, true, true, true, true, false, true, false, false, false, false, false] 6 #[true, false, true, true, true, true, false, true, false, false, false, false, false] (by kernel_rfl) rfl (by kernel_rfl) (by kernel_rfl) rfl (by kernel_rfl) (by kernel_rfl) (by intro c a a' w e h; obtain ⟨t, d⟩ := a; obtain ⟨t', d'⟩ := a'; obtain rfl : d = d' := e; exact h) ?_
          intro hs
          simp only [pickB]
          repeat (go_big_quiet_step (fail))
          refine wpQuiet_nil ?_
          clear hs
          intro W hW
          have H4 := H3.out
          rw [← hW] at H4
          replace H4 := Lib.hid H4
          replace hW := Lib.hid hW
          have Z : St W none0 W.drew [] := (St.zero W).drew
          have hr : Rd W ga (encs l) := St.rd (by omega) 2 H4.out rfl
          refine to_two (i := 1) (j := 8) (by kernel_rfl) (fun K hK => ?_) (fun K hK => ?_) <;> simp only [List.drop_succ_cons, List.drop_zero, List.take_succ_cons, List.take_zero]
          · go_wp2_with fail
            have E1 := Z.alloc [] 29
            refine hK _ _ E1.below ?_
            clear hK K
            have E2 := E1.row_empty (size := 4) 0 rfl
            have hr2 := hr.of_st E2
            refine to_two (i := 6) (j := 8) (by kernel_rfl) (fun K hK => ?_) (fun K hK => ?_) <;> simp only [List.drop_succ_cons, List.drop_zero, List.take_succ_cons, List.take_zero]
            · go_wp2_with (at_builtin; (refine wpList_appRd rfl (.tmp 47) (.tmp 51) _ rfl 29 i0 _ 4 32 Try.underlying41 hi hz hz1 hz2 rfl (by omega) 0 _ 0 [] rfl E2 rfl ga l.length cap (encs l) rfl (encs_len l) hr2 ga0.out (encs_one l) (by omega) (by omega) ?_; intro wv5 w5 HA; (try simp only [Nat.zero_add, List.nil_append] at HA)))
              refine hK _ _ HA.below ?_
              clear hK K
              refine to_one (i := 8) (by kernel_rfl) fun K hK => ?_
              simp only [List.drop_succ_cons, List.drop_zero, List.take_succ_cons, List.take_zero]
              go_wp2_with fail
              have HB := St.alloc HA [.int .i64 next, .int .i64 k, .int .i64 a, .int .i64 p] 29
              try simp only [World.size_alloc, World.size_drew] at HB
              refine hK _ _ (St.below HB) ?_
              clear hK K
              refine to_one (i := 9) (by kernel_rfl) fun K hK => ?_
              simp only [List.drop_succ_cons, List.drop_zero, List.take_succ_cons, List.take_zero]
              go_wp2_with (at_builtin; (refine wpList_appRd rfl (.tmp 52) (.tmp 54) _ rfl 29 i0 _ 4 32 Try.underlying41 hi hz hz1 hz2 rfl (by omega) 1 _ l.length (encs l) rfl HB rfl _ 1 1 [.int .i64 next, .int .i64 k, .int .i64 a, .int .i64 p] rfl rfl (St.box 0 HB rfl).rd (by simp) (by simp [Value.oneCell']) (by omega) (by omega) ?_; intro wv6 w6 HC))
              refine hK _ _ HC.below ?_
              clear hK K
              have hb6 := HC.below
              refine to_one (i := 10) (by kernel_rfl) fun K hK => ?_
              simp only [List.drop_succ_cons, List.drop_zero, List.take_succ_cons, List.take_zero]
              go_wp2_with fail
              refine hK _ _ hb6 ?_
              clear hK K
              refine to_one (i := 11) (by kernel_rfl) fun K hK => ?_
              simp only [List.drop_succ_cons, List.drop_zero, List.take_succ_cons, List.take_zero]
              go_wp2_with fail
              refine hK _ _ hb6 ?_
              clear hK K
              refine to_last (by kernel_rfl) (by kernel_rfl) fun K hK => ?_
              simp only [List.drop_succ_cons, List.drop_zero, List.take_succ_cons, List.take_zero]
              have HD : St W none0 w6 [rowA 4 wv6 (l.length + 1) (encs l ++ enc (next, k, a, p))] := ((HC).front 0 rfl).drops 1
              rw [encs_app] at HD
              obtain ⟨ga6, cap6, rfl, _⟩ := St.slice (by omega) 0 HD rfl
              have HF := H4.out.add HD
              clear HC HD H4
              obtain ⟨zq, cq, fq⟩ := HF.box 2 rfl
              obtain ⟨zn, cn, fn⟩ := HF.box 1 rfl
              have HG := (HF.set 2 rfl 0 (.slice ga6 (l.length + 1) cap6) (by simp)).set 0 rfl 1 (.int .i64 (next + 1)) (by simp)
              replace HG := Lib.hid HG
              replace HF := Lib.hid HF
              go_wp2_with fail
              go_ret2
              exact ⟨rfl, (ref_shut' (l := l ++ [(next, k, a, p)]) (n := l.length + 1) (by rw [List.length_append]; rfl) HG.out).drops 1⟩
            · go_wp2_with fail
              have HB := St.alloc E2 [.int .i64 next, .int .i64 k, .int .i64 a, .int .i64 p] 29
              try simp only [World.size_alloc, World.size_drew] at HB
              refine hK _ _ (St.below HB) ?_
              clear hK K
              have hr3 := hr.of_st HB
              refine to_one (i := 6) (by kernel_rfl) fun K hK => ?_
              simp only [List.drop_succ_cons, List.drop_zero, List.take_succ_cons, List.take_zero]
              go_wp2_with (at_builtin; (refine wpList_appRd rfl (.tmp 47) (.tmp 51) _ rfl 29 i0 _ 4 32 Try.underlying41 hi hz hz1 hz2 rfl (by omega) 1 _ 0 [] rfl HB rfl ga l.length cap (encs l) rfl (encs_len l) hr3 ga0.out (encs_one l) (by omega) (by omega) ?_; intro wv5 w5 HA; (try simp only [Nat.zero_add, List.nil_append] at HA)))
              refine hK _ _ HA.below ?_
              clear hK K
              refine to_one (i := 9) (by kernel_rfl) fun K hK => ?_
              simp only [List.drop_succ_cons, List.drop_zero, List.take_succ_cons, List.take_zero]
              go_wp2_with (at_builtin; (refine wpList_appRd rfl (.tmp 52) (.tmp 54) _ rfl 29 i0 _ 4 32 Try.underlying41 hi hz hz1 hz2 rfl (by omega) 0 _ l.length (encs l) rfl HA rfl _ 1 1 [.int .i64 next, .int .i64 k, .int .i64 a, .int .i64 p] rfl rfl (St.box 1 HA rfl).rd (by simp) (by simp [Value.oneCell']) (by omega) (by omega) ?_; intro wv6 w6 HC))
              refine hK _ _ HC.below ?_
              clear hK K
              have hb6 := HC.below
              refine to_one (i := 10) (by kernel_rfl) fun K hK => ?_
              simp only [List.drop_succ_cons, List.drop_zero, List.take_succ_cons, List.take_zero]
              go_wp2_with fail
              refine hK _ _ hb6 ?_
              clear hK K
              refine to_one (i := 11) (by kernel_rfl) fun K hK => ?_
              simp only [List.drop_succ_cons, List.drop_zero, List.take_succ_cons, List.take_zero]
              go_wp2_with fail
              refine hK _ _ hb6 ?_
              clear hK K
              refine to_last (by kernel_rfl) (by kernel_rfl) fun K hK => ?_
              simp only [List.drop_succ_cons, List.drop_zero, List.take_succ_cons, List.take_zero]
              have HD : St W none0 w6 [rowA 4 wv6 (l.length + 1) (encs l ++ enc (next, k, a, p))] := ((HC).front 0 rfl).drops 1
              rw [encs_app] at HD
              obtain ⟨ga6, cap6, rfl, _⟩ := St.slice (by omega) 0 HD rfl
              have HF := H4.out.add HD
              clear HC HD H4
              obtain ⟨zq, cq, fq⟩ := HF.box 2 rfl
              obtain ⟨zn, cn, fn⟩ := HF.box 1 rfl
              have HG := (HF.set 2 rfl 0 (.slice ga6 (l.length + 1) cap6) (by simp)).set 0 rfl 1 (.int .i64 (next + 1)) (by simp)
              replace HG := Lib.hid HG
              replace HF := Lib.hid HF
              go_wp2_with fail
              go_ret2
              exact ⟨rfl, (ref_shut' (l := l ++ [(next, k, a, p)]) (n := l.length + 1) (by rw [List.length_append]; rfl) HG.out).drops 1⟩
          · go_wp2_with fail
            have HB := St.alloc Z [.int .i64 next, .int .i64 k, .int .i64 a, .int .i64 p] 29
            try simp only [World.size_alloc, World.size_drew] at HB
            refine hK _ _ (St.below HB) ?_
            clear hK K
            refine to_one (i := 1) (by kernel_rfl) fun K hK => ?_
            simp only [List.drop_succ_cons, List.drop_zero, List.take_succ_cons, List.take_zero]
            go_wp2_with fail
            have E1 := HB.alloc [] 29
            try simp only [World.size_alloc, World.size_drew] at E1
            refine hK _ _ E1.below ?_
            clear hK K
            have E2 := E1.row_empty (size := 4) 0 rfl
            have hr2 := hr.of_st E2
            refine to_one (i := 6) (by kernel_rfl) fun K hK => ?_
            simp only [List.drop_succ_cons, List.drop_zero, List.take_succ_cons, List.take_zero]
            go_wp2_with (at_builtin; (refine wpList_appRd rfl (.tmp 47) (.tmp 51) _ rfl 29 i0 _ 4 32 Try.underlying41 hi hz hz1 hz2 rfl (by omega) 0 _ 0 [] rfl E2 rfl ga l.length cap (encs l) rfl (encs_len l) hr2 ga0.out (encs_one l) (by omega) (by omega) ?_; intro wv5 w5 HA; (try simp only [Nat.zero_add, List.nil_append] at HA)))
            refine hK _ _ HA.below ?_
            clear hK K
            refine to_one (i := 9) (by kernel_rfl) fun K hK => ?_
            simp only [List.drop_succ_cons, List.drop_zero, List.take_succ_cons, List.take_zero]
            go_wp2_with (at_builtin; (refine wpList_appRd rfl (.tmp 52) (.tmp 54) _ rfl 29 i0 _ 4 32 Try.underlying41 hi hz hz1 hz2 rfl (by omega) 0 _ l.length (encs l) rfl HA rfl _ 1 1 [.int .i64 next, .int .i64 k, .int .i64 a, .int .i64 p] rfl rfl (St.box 1 HA rfl).rd (by simp) (by simp [Value.oneCell']) (by omega) (by omega) ?_; intro wv6 w6 HC))
            refine hK _ _ HC.below ?_
            clear hK K
            have hb6 := HC.below
            refine to_one (i := 10) (by kernel_rfl) fun K hK => ?_
            simp only [List.drop_succ_cons, List.drop_zero, List.take_succ_cons, List.take_zero]
            go_wp2_with fail
            refine hK _ _ hb6 ?_
            clear hK K
            refine to_one (i := 11) (by kernel_rfl) fun K hK => ?_
            simp only [List.drop_succ_cons, List.drop_zero, List.take_succ_cons, List.take_zero]
            go_wp2_with fail
            refine hK _ _ hb6 ?_
            clear hK K
            refine to_last (by kernel_rfl) (by kernel_rfl) fun K hK => ?_
            simp only [List.drop_succ_cons, List.drop_zero, List.take_succ_cons, List.take_zero]
            have HD : St W none0 w6 [rowA 4 wv6 (l.length + 1) (encs l ++ enc (next, k, a, p))] := ((HC).front 0 rfl).drops 1
            rw [encs_app] at HD
            obtain ⟨ga6, cap6, rfl, _⟩ := St.slice (by omega) 0 HD rfl
            have HF := H4.out.add HD
            clear HC HD H4
            obtain ⟨zq, cq, fq⟩ := HF.box 2 rfl
            obtain ⟨zn, cn, fn⟩ := HF.box 1 rfl
            have HG := (HF.set 2 rfl 0 (.slice ga6 (l.length + 1) cap6) (by simp)).set 0 rfl 1 (.int .i64 (next + 1)) (by simp)
            replace HG := Lib.hid HG
            replace HF := Lib.hid HF
            go_wp2_with fail
            go_ret2
            exact ⟨rfl, (ref_shut' (l := l ++ [(next, k, a, p)]) (n := l.length + 1) (by rw [List.length_append]; rfl) HG.out).drops 1⟩
end Go.Proofs.Ytljgmephajocaaa.Ctl
