/- The walks of the dock's answer: Push, Spill. -/
import Derived.Test.YtiaefmmcakagpaaDockRefA
namespace Go.Proofs.Ytiaefmmcakagpaa.DockRef
set_option linter.unusedSimpArgs false
set_option linter.unusedVariables false
open Go Go.RowKit Go.Proofs.Ytiaefmmcakagpaa
open Go.Proofs.Ytiaefmmcakagpaa.DockSInt (placed)
attribute [local irreducible] Calls

theorem ga_none {w : World} {a : Option Addr} {l : List Int} {n : Nat} (hn : l.length = n) (h : Rd w a (i64s l)) : a = none → n = 0 := by
  rintro rfl
  rcases h with h | ⟨_, _, e, _⟩
  · have := congrArg List.length h
    rw [i64s_len, List.length_nil] at this
    omega
  · cases e
set_option maxRecDepth 100000 in
set_option maxHeartbeats 400000 in
theorem rpush_st {W w : World} {S0 : Nat → Prop} {r : List Asn} (d : Nat) (most x : Int) (l : List Int) (hl : l.length ≤ 100000) (H : St W S0 w (refD d most l :: r)) :
    Calls Try.prog 51 #[.pointer (some ⟨d, 0, none⟩), .int .i64 x] w (fun e w' => e = .returned (.bool (decide ((l.length : Int) < most))) ∧ St W S0 w' (refD d most (if (l.length : Int) < most then l ++ [x] else l) :: r)) := by
  obtain ⟨i0, hi, hz, hz1, hz2⟩ := info_parts DelInt.el_info
  obtain ⟨a, cap, H1⟩ := refD_open H
  have H1' := H1
  obtain ⟨z, c, f⟩ := H1.box 0 rfl
  by_cases hlt : (l.length : Int) < most
  · have q : decide (most ≤ (l.length : Int)) = false := decide_eq_false (by omega)
    rw [decide_eq_true hlt, if_pos hlt]
    clear H
    replace H1 := Lib.hid H1
    go_enter Try.func51, Try.ntmps51
    go_wp2_with fail
    refine wp_region_near (by kernel_rfl) (by kernel_rfl) ?_
    intro hs
    repeat (go_big_quiet_step (fail))
    refine wpQuiet_nil ?_
    clear hs
    intro w2 hb2
    have H2 := H1.out.thru hb2
    obtain ⟨z2, c2, f2⟩ := H2.box 0 rfl
    have hr0 : Rd w2 a (i64s l) := St.reads_rd 1 H2 rfl
    have ga0 := ga_none rfl hr0
    have E2 := (H2.alloc [] 3).row_empty (size := 1) 0 rfl
    have hr : Rd _ a (i64s l) := St.reads_rd 2 E2 rfl
    clear H1 H1' c f z hr0
    replace E2 := Lib.hid E2; replace hr := Lib.hid hr; replace ga0 := Lib.hid ga0; replace H2 := Lib.hid H2
    go_wp2_with (at_builtin; first | (refine wpList_appRd rfl (.tmp 16) (.tmp 20) _ rfl 3 i0 _ 1 8 Try.underlying34 hi hz hz1 hz2 rfl (by omega) 0 _ 0 [] rfl E2.out rfl a l.length cap (i64s l) rfl (by rw [i64s_len]; omega) hr.out ga0.out (i64s_one l) (by omega) (by omega) ?_; intro wv5 w5 H5; (try simp only [Nat.zero_add, List.nil_append] at H5); obtain ⟨ga5, cap5, rfl, _⟩ := St.slice (by omega) 0 H5 rfl; replace H5 := Lib.hid H5) | (refine wpList_appS rfl (.tmp 21) (.tmp 23) _ rfl 3 i0 _ 1 8 Try.underlying34 hi hz hz1 hz2 rfl (by omega) 0 _ l.length (i64s l) rfl H5.out rfl 1 1 [.int .i64 x] rfl rfl (by simp [Value.oneCell']) (by omega) (by omega) ?_; intro v6 w6 H6; obtain ⟨ga6, cap6, rfl, _⟩ := St.slice (by omega) 0 H6 rfl; obtain ⟨z6, k6, f6⟩ := St.box 1 H6 rfl; replace H6 := Lib.hid H6))
    go_ret
    have H7 := (((H6.out.set 1 rfl 0 (.slice ga6 (l.length + 1) cap6) (by simp)).to_read 1 rfl).arrN [1, 0, 2] rfl).drop 2 rfl
    rw [show i64s l ++ [Value.int .i64 x] = i64s (l ++ [x]) from by simp [i64s]] at H7
    exact ⟨rfl, refD_shut (by simp) H7⟩
  · have q : decide (most ≤ (l.length : Int)) = true := decide_eq_true (by omega)
    rw [decide_eq_false hlt, if_neg hlt]
    clear H1
    replace H := Lib.hid H; replace H1' := Lib.hid H1'
    go_enter Try.func51, Try.ntmps51
    go_wp2_with fail
    refine wp_region_near (by kernel_rfl) (by kernel_rfl) ?_
    intro hs
    repeat (go_big_quiet_step (fail))
    refine wpQuiet_nil ?_
    clear hs
    intro w2 hb2
    have H2 := H.out.thru hb2
    replace H2 := Lib.hid H2
    go_wp2_with fail
    go_ret
    exact ⟨rfl, H2.out⟩
/-- What Spill comes to: what is handed back, what waits. -/
def spillD (most x : Int) (l : List Int) : (Int × Bool) × List Int := if most = 0 then ((x, true), l) else if (l.length : Int) < most then ((0, false), l ++ [x]) else ((l.headD 0, true), l.drop 1 ++ [x])
set_option maxRecDepth 100000 in
set_option maxHeartbeats 400000 in
theorem rspill_st {W w : World} {S0 : Nat → Prop} {r : List Asn} (d : Nat) (most x : Int) (l : List Int) (hm : 0 ≤ most) (hl : l.length ≤ 100000) (hlm : (l.length : Int) ≤ most) (H : St W S0 w (refD d most l :: r)) :
    Calls Try.prog 52 #[.pointer (some ⟨d, 0, none⟩), .int .i64 x] w (fun e w' => e = .returned (.tuple #[.int .i64 (spillD most x l).1.1, .bool (spillD most x l).1.2]) ∧ St W S0 w' (refD d most (spillD most x l).2 :: r)) := by
  obtain ⟨a, cap, H1⟩ := refD_open H
  obtain ⟨z, c, f⟩ := H1.box 0 rfl
  by_cases h0 : most = 0
  · have q : (most == 0) = true := by simpa using h0
    have q' : decide (most = 0) = true := decide_eq_true h0
    unfold spillD
    rw [if_pos h0]
    replace h0 := Lib.hid h0
    clear H1
    replace H := Lib.hid H
    go_enter Try.func52, Try.ntmps52
    go_wp2_with fail
    go_ret2
    exact ⟨rfl, H.out⟩
  · have q : (most == 0) = false := by simpa using h0
    have q' : decide (most = 0) = false := decide_eq_false h0
    by_cases hlt : (l.length : Int) < most
    · have q2 : decide (most ≤ (l.length : Int)) = false := decide_eq_false (by omega)
      unfold spillD
      rw [if_neg h0, if_pos hlt]
      replace h0 := Lib.hid h0
      clear H1
      replace H := Lib.hid H
      go_enter Try.func52, Try.ntmps52
      go_wp2_with fail
      refine wp_region_near (by kernel_rfl) (by kernel_rfl) ?_
      intro hs
      repeat (go_big_quiet_step (fail))
      refine wpQuiet_nil ?_
      clear hs
      intro w2 hb2
      have H2 := H.out.thru hb2
      have P := rpush_st d most x l hl H2
      rw [if_pos hlt] at P
      clear H H2
      replace P := Lib.hid P
      go_wp2_with fail
      refine Calls.mono P.out ?_
      rintro e w3 ⟨rfl, H3⟩
      clear P
      replace H3 := Lib.hid H3
      go_wp2_with fail
      go_ret2
      exact ⟨rfl, H3.out⟩
    · have q2 : decide (most ≤ (l.length : Int)) = true := decide_eq_true (by omega)
      unfold spillD
      rw [if_neg h0, if_neg hlt]
      replace h0 := Lib.hid h0
      cases l with
      | nil => simp at hlt hlm; have := h0.out; omega
      | cons y l =>
        simp only [List.headD_cons, List.drop_succ_cons, List.drop_zero]
        simp only [List.length_cons] at H1 hl hlm hlt q2 c
        have hm2 : (l.length : Int) < most := by omega
        have q3 : decide (most ≤ (l.length : Int) + 1) = true := decide_eq_true (by omega)
        clear q2
        clear H hlt
        replace H1 := Lib.hid H1; replace hlm := Lib.hid hlm
        go_enter Try.func52, Try.ntmps52
        go_wp2_with fail
        refine wp_region_near (by kernel_rfl) (by kernel_rfl) ?_
        intro hs
        repeat (go_big_quiet_step (fail))
        refine wpQuiet_nil ?_
        clear hs
        intro w2 hb2
        have H2 := H1.out.thru hb2
        obtain ⟨z2, c2, f2⟩ := H2.box 0 rfl
        obtain ⟨hx1, _, _, e, hx2, hx3, hx4⟩ := St.reads 1 H2 rfl
        cases e
        rcases hx4 with ⟨_, h0, _⟩ | ⟨g, o, rfl, hg, hr⟩
        · omega
        · have e0 := hr 0 (.int .i64 y) rfl
          simp only [Nat.add_zero] at e0
          unfold maxLen at hx3
          clear hx1 hr H1 z c f
          by_cases hc : cap = 1
          · have hl0 : l = [] := List.eq_nil_of_length_eq_zero (by omega)
            subst hl0
            subst hc
            have HN := ints_next 1 H2 rfl rfl o 0 (.inl ⟨rfl, rfl⟩)
            go_wp2_with fail
            have H5 : St W S0 _ (refD d most ([] : List Int) :: r) := refD_shut rfl ((HN.front 1 rfl).set 0 rfl 0 (.slice (some ⟨g, o, none⟩) 0 0) (by simp))
            have P := rpush_st d most x ([] : List Int) (by first | omega | (simp only [List.length_nil]; omega)) H5
            rw [if_pos (by first | omega | (simp only [List.length_nil] at *; omega)), decide_eq_true (by first | omega | (simp only [List.length_nil] at *; omega) : ((([] : List Int)).length : Int) < most)] at P
            clear H2 HN H5
            replace P := Lib.hid P
            go_wp2_with fail
            refine Calls.mono P.out ?_
            rintro e w6 ⟨rfl, H6⟩
            clear P
            replace H6 := Lib.hid H6
            go_wp2_with fail
            go_ret2
            exact ⟨rfl, H6.out⟩
          · have HN := ints_next 1 H2 rfl rfl (o + 1) (cap - 1) (.inr ⟨rfl, rfl⟩)
            go_wp2_with fail
            have H5 : St W S0 _ (refD d most l :: r) := refD_shut rfl ((HN.front 1 rfl).set 0 rfl 0 (.slice (some ⟨g, o + 1, none⟩) l.length (cap - 1)) (by simp))
            have P := rpush_st d most x l (by first | omega | (simp only [List.length_nil]; omega)) H5
            rw [if_pos (by first | omega | (simp only [List.length_nil] at *; omega)), decide_eq_true (by first | omega | (simp only [List.length_nil] at *; omega) : ((l).length : Int) < most)] at P
            clear H2 HN H5
            replace P := Lib.hid P
            go_wp2_with fail
            refine Calls.mono P.out ?_
            rintro e w6 ⟨rfl, H6⟩
            clear P
            replace H6 := Lib.hid H6
            go_wp2_with fail
            go_ret2
            exact ⟨rfl, H6.out⟩
end Go.Proofs.Ytiaefmmcakagpaa.DockRef
