/- The walks of the dock's answer: Place, Sweep. -/
import Derived.Test.YtiaefmmcakagpaaDockRefB
namespace Go.Proofs.Ytiaefmmcakagpaa.DockRef
set_option linter.unusedSimpArgs false
set_option linter.unusedVariables false
open Go Go.RowKit Go.Proofs.Ytiaefmmcakagpaa
open Go.Proofs.Ytiaefmmcakagpaa.DockSInt (placed)
attribute [local irreducible] Calls

theorem findIdx_is {n : Int} {l : List Int} {j : Nat} (h1 : ∀ i (hi : i < l.length), i < j → l[i] ≤ n) (h2 : j = l.length ∨ ∃ hj : j < l.length, n < l[j]) : l.findIdx (fun y => decide (n < y)) = j := by
  rcases h2 with rfl | ⟨hj, h2⟩
  · rw [List.findIdx_eq_length]
    intro x hx
    obtain ⟨i, hi, rfl⟩ := List.getElem_of_mem hx
    have := h1 i hi hi
    simp; omega
  · rw [List.findIdx_eq hj]
    refine ⟨by simpa using h2, fun i hi => ?_⟩
    have := h1 i (by omega) hi
    simp; omega
theorem ints_pre {w : World} {a : Option Addr} {l : List Int} (h : Rd w a (i64s l)) (j : Nat) : Rd w a (i64s (l.take j)) := by
  have e : i64s (l.take j) = (i64s l).take j := by simp [i64s]
  rw [e]
  rcases h with h | ⟨b, o, rfl, hb, hc⟩
  · exact .inl (by rw [h]; simp)
  · refine .inr ⟨b, o, rfl, hb, fun k u hu => hc k u ?_⟩
    rw [List.getElem?_take] at hu
    split at hu
    · exact hu
    · cases hu
theorem ints_post {w : World} {b off : Nat} {l : List Int} (h : Rd w (some ⟨b, off, none⟩) (i64s l)) (j : Nat) : Rd w (some ⟨b, off + j, none⟩) (i64s (l.drop j)) := by
  have e : i64s (l.drop j) = (i64s l).drop j := by simp [i64s]
  rw [e]
  rcases h with h | ⟨b', o, e, hb, hc⟩
  · exact .inl (by rw [h]; simp)
  · cases e
    refine .inr ⟨b, off + j, rfl, hb, fun k u hu => ?_⟩
    rw [List.getElem?_drop] at hu
    rw [Nat.add_assoc]
    exact hc _ u hu
set_option maxRecDepth 100000 in
set_option maxHeartbeats 1000000 in
theorem rplace_st {W w : World} {S0 : Nat → Prop} {r : List Asn} (d : Nat) (most x n : Int) (l : List Int) (hl : l.length ≤ 100000) (H : St W S0 w (refD d most l :: r)) :
    Calls Try.prog 57 #[.pointer (some ⟨d, 0, none⟩), .int .i64 x, .int .i64 n] w (fun e w' => e = .returned (.bool (decide ((l.length : Int) < most))) ∧ St W S0 w' (refD d most (if (l.length : Int) < most then placed (fun y => decide (n < y)) x l else l) :: r)) := by
  obtain ⟨i0, hi, hz, hz1, hz2⟩ := info_parts DelInt.el_info
  obtain ⟨a, cap, H1⟩ := refD_open H
  obtain ⟨z, c, f⟩ := H1.box 0 rfl
  by_cases hlt : (l.length : Int) < most
  · have q : decide (most ≤ (l.length : Int)) = false := decide_eq_false (by omega)
    rw [decide_eq_true hlt, if_pos hlt]
    clear H
    replace H1 := Lib.hid H1
    go_enter Try.func57, Try.ntmps57
    go_wp2_with fail
    refine wp_region_near (by kernel_rfl) (by kernel_rfl) ?_
    intro hs
    repeat (go_big_quiet_step (fail))
    refine wpQuiet_nil ?_
    clear hs
    intro w2 hb2
    have H2 := H1.out.thru hb2
    clear H1 c f z
    replace H2 := Lib.hid H2
    go_wp2_with fail
    go_loopg [7] l.length (fun g v7 wr => ∃ j : Nat, j ≤ l.length ∧ Hid (g = l.length - j) ∧ v7 = .int .i64 j ∧ Hid (∀ i (hi : i < l.length), i < j → l[i] ≤ n) ∧ Hid (St W S0 wr (cellA d [.slice a l.length cap, .int .i64 most] :: readA 1 (.slice a l.length cap) l.length (i64s l) :: r)))
    case atStart => exact ⟨0, by omega, Lib.hid rfl, rfl, Lib.hid (by omega), H2⟩
    case round =>
      obtain ⟨j, hj, hg, rfl, hle, hst⟩ := hrel
      obtain ⟨z2, c2, f2⟩ := hst.out.box 0 rfl
      obtain ⟨hx1, _, _, e, hx2, hx3, hx4⟩ := St.reads 1 hst.out rfl
      cases e
      clear H2
      have hR : Rd wr a (i64s l) := St.reads_rd 1 hst.out rfl
      unfold maxLen at hx3
      by_cases hjn : j < l.length
      · obtain ⟨b, off, rfl, hb, hc⟩ := Rd.cons hR (i64s_ne rfl hjn)
        have e0 := hc j _ (i64s_at hjn)
        have hjn' : (j : Int) < l.length := by omega
        by_cases hq : l[j] ≤ n
        · have q1 : decide (l[j] ≤ n) = true := decide_eq_true hq
          have hnx : ∀ i (hi : i < l.length), i < j + 1 → l[i] ≤ n := fun i hi h1 => (Nat.lt_or_eq_of_le (Nat.le_of_lt_succ h1)).elim (hle.out i hi) fun e => by subst e; exact hq
          clear hx1 hx4 hc hR
          generalize l[j] = u at *
          replace hq := Lib.hid hq; replace hnx := Lib.hid hnx; replace hle := Lib.hid hle
          go_wp2_with fail
          go_roundg (l.length - (j + 1))
          case measure => have := hg.out; omega
          case rel => exact ⟨j + 1, by omega, Lib.hid rfl, by go_num, hnx, hst⟩
        · have q1 : decide (l[j] ≤ n) = false := decide_eq_false hq
          have hfi := findIdx_is hle.out (.inr ⟨hjn, by omega⟩)
          generalize l[j] = u at *
          have E2 := (hst.out.alloc [] 3).row_empty (size := 1) 0 rfl
          have hr1 := ints_pre (St.reads_rd 2 E2 rfl) j
          have ga1 : some (⟨b, off, none⟩ : Addr) = none → j = 0 := by intro e; cases e
          have hcj : ¬ cap = j := by omega
          clear hx1 hx4 hc hR
          replace hq := Lib.hid hq; replace hle := Lib.hid hle; replace hfi := Lib.hid hfi; replace E2 := Lib.hid E2; replace hr1 := Lib.hid hr1; replace ga1 := Lib.hid ga1
          go_wp2_with (at_builtin; first | (refine wpList_appRd rfl (.tmp 39) (.tmp 45) _ rfl 3 i0 _ 1 8 Try.underlying34 hi hz hz1 hz2 rfl (by omega) 0 _ 0 [] rfl E2.out rfl _ j cap (i64s (l.take j)) rfl (by rw [i64s_len, List.length_take]; omega) hr1.out ga1.out (i64s_one _) (by omega) (by omega) ?_; intro wv5 w5 H5; (try simp only [Nat.zero_add, List.nil_append] at H5); obtain ⟨ga5, cap5, rfl, _⟩ := St.slice (by omega) 0 H5 rfl; replace H5 := Lib.hid H5) | (refine wpList_appS rfl (.tmp 47) (.tmp 49) _ rfl 3 i0 _ 1 8 Try.underlying34 hi hz hz1 hz2 rfl (by omega) 0 _ j (i64s (l.take j)) rfl H5.out rfl 1 1 [.int .i64 x] rfl rfl (by simp [Value.oneCell']) (by omega) (by omega) ?_; intro v6 w6 H6; obtain ⟨ga6, cap6, rfl, _⟩ := St.slice (by omega) 0 H6 rfl; obtain ⟨z6, k6, f6⟩ := St.box 1 H6 rfl; have hr6 := ints_post (St.reads_rd 2 H6 rfl) j; replace H6 := Lib.hid H6) | (refine wpList_appRd rfl (.tmp 52) (.tmp 58) _ rfl 3 i0 _ 1 8 Try.underlying34 hi hz hz1 hz2 rfl (by omega) 0 _ (j + 1) (i64s (l.take j) ++ [.int .i64 x]) rfl H6.out rfl _ (l.length - j) (cap - j) (i64s (l.drop j)) rfl (by rw [i64s_len, List.length_drop]; omega) hr6 (by intro e; cases e) (i64s_one _) (by omega) (by omega) ?_; intro wv7 w7 H7; obtain ⟨ga7, cap7, rfl, _⟩ := St.slice (by omega) 0 H7 rfl; obtain ⟨z7, k7, f7⟩ := St.box 1 H7 rfl; replace H7 := Lib.hid H7))
          go_ret
          have H8 := (((H7.out.set 1 rfl 0 (.slice ga7 (j + 1 + (l.length - j)) cap7) (by simp)).to_read 1 rfl).arrN [1, 0, 2] rfl).drop 2 rfl
          rw [show i64s (l.take j) ++ [Value.int .i64 x] ++ i64s (l.drop j) = i64s (l.take j ++ x :: l.drop j) from by simp [i64s]] at H8
          have hpl : placed (fun y => decide (n < y)) x l = l.take j ++ x :: l.drop j := by unfold placed; rw [hfi.out]
          refine ⟨rfl, ?_⟩
          rw [hpl]
          exact refD_shut (by simp only [List.length_append, List.length_take, List.length_cons, List.length_drop]; omega) H8
      · have hj2 : j = l.length := by omega
        have hfi := findIdx_is hle.out (.inl hj2)
        have E2 := (hst.out.alloc [] 3).row_empty (size := 1) 0 rfl
        have hr1 := ints_pre (St.reads_rd 2 E2 rfl) j
        have hdn : i64s (l.drop j) = [] := by rw [hj2]; simp [i64s]
        have hd0 : ∀ w' a', Rd w' a' (i64s (l.drop j)) := fun w' a' => .inl hdn
        rcases hx4 with ⟨rfl, h0, rfl⟩ | ⟨b, off, rfl, _, _⟩
        · have hl0 : l = [] := List.eq_nil_of_length_eq_zero h0
          subst hl0
          obtain rfl : j = 0 := by simpa using hj2
          have ga1 : (none : Option Addr) = none → (0 : Nat) = 0 := fun _ => rfl
          clear hx1 hR hj2 hle
          replace hfi := Lib.hid hfi; replace E2 := Lib.hid E2; replace hr1 := Lib.hid hr1; replace ga1 := Lib.hid ga1; replace hdn := Lib.hid hdn; replace hd0 := Lib.hid hd0
          have hpn : placed (fun y => decide (n < y)) x ([] : List Int) = [x] := rfl
          have H3 := hst
          clear hst
          replace hpn := Lib.hid hpn
          go_wp2_with (at_builtin; first | (refine wpList_appRd rfl (.tmp 39) (.tmp 45) _ rfl 3 i0 _ 1 8 Try.underlying34 hi hz hz1 hz2 rfl (by omega) 0 _ 0 [] rfl E2.out rfl none 0 0 [] rfl rfl (Rd.nil _ _) (fun _ => rfl) (by simp) (by omega) (by omega) ?_; intro wv5 w5 H5; (try simp only [Nat.zero_add, List.nil_append] at H5); obtain ⟨ga5, cap5, rfl, _⟩ := St.slice (by omega) 0 H5 rfl; replace H5 := Lib.hid H5) | (refine wpList_appS rfl (.tmp 47) (.tmp 49) _ rfl 3 i0 _ 1 8 Try.underlying34 hi hz hz1 hz2 rfl (by omega) 0 _ 0 [] rfl H5.out rfl 1 1 [.int .i64 x] rfl rfl (by simp [Value.oneCell']) (by omega) (by omega) ?_; intro v6 w6 H6; obtain ⟨ga6, cap6, rfl, _⟩ := St.slice (by omega) 0 H6 rfl; obtain ⟨z6, k6, f6⟩ := St.box 1 H6 rfl; replace H6 := Lib.hid H6) | (refine wpList_appRd rfl (.tmp 52) (.tmp 58) _ rfl 3 i0 _ 1 8 Try.underlying34 hi hz hz1 hz2 rfl (by omega) 0 _ (0 + 1) ([] ++ [.int .i64 x]) rfl H6.out rfl none 0 0 [] rfl rfl (Rd.nil _ _) (fun _ => rfl) (by simp) (by omega) (by omega) ?_; intro wv7 w7 H7; obtain ⟨ga7, cap7, rfl, _⟩ := St.slice (by omega) 0 H7 rfl; obtain ⟨z7, k7, f7⟩ := St.box 1 H7 rfl; replace H7 := Lib.hid H7))
          go_ret
          have H8 := (((H7.out.set 1 rfl 0 (.slice ga7 (0 + 1 + 0) cap7) (by simp)).to_read 1 rfl).arrN [1, 0, 2] rfl).drop 2 rfl
          refine ⟨rfl, ?_⟩
          rw [hpn.out]
          exact refD_shut (l := [x]) rfl H8
        · have ga1 : some (⟨b, off, none⟩ : Addr) = none → j = 0 := by intro e; cases e
          clear hx1 hR
          by_cases hcj : cap = j
          · have hcj2 := hcj.symm
            subst hcj2
            replace hj2 := Lib.hid hj2
            replace hle := Lib.hid hle; replace hfi := Lib.hid hfi; replace E2 := Lib.hid E2; replace hr1 := Lib.hid hr1; replace ga1 := Lib.hid ga1; replace hdn := Lib.hid hdn; replace hd0 := Lib.hid hd0
            go_wp2_with (at_builtin; first | (refine wpList_appRd rfl (.tmp 39) (.tmp 45) _ rfl 3 i0 _ 1 8 Try.underlying34 hi hz hz1 hz2 rfl (by omega) 0 _ 0 [] rfl E2.out rfl _ j j (i64s (l.take j)) rfl (by rw [i64s_len, List.length_take]; omega) hr1.out ga1.out (i64s_one _) (by omega) (by omega) ?_; intro wv5 w5 H5; (try simp only [Nat.zero_add, List.nil_append] at H5); obtain ⟨ga5, cap5, rfl, _⟩ := St.slice (by omega) 0 H5 rfl; replace H5 := Lib.hid H5) | (refine wpList_appS rfl (.tmp 47) (.tmp 49) _ rfl 3 i0 _ 1 8 Try.underlying34 hi hz hz1 hz2 rfl (by omega) 0 _ j (i64s (l.take j)) rfl H5.out rfl 1 1 [.int .i64 x] rfl rfl (by simp [Value.oneCell']) (by omega) (by omega) ?_; intro v6 w6 H6; obtain ⟨ga6, cap6, rfl, _⟩ := St.slice (by omega) 0 H6 rfl; obtain ⟨z6, k6, f6⟩ := St.box 1 H6 rfl; have hr6 := hd0.out w6 (some ⟨b, off, none⟩); replace H6 := Lib.hid H6) | (refine wpList_appRd rfl (.tmp 52) (.tmp 58) _ rfl 3 i0 _ 1 8 Try.underlying34 hi hz hz1 hz2 rfl (by omega) 0 _ (j + 1) (i64s (l.take j) ++ [.int .i64 x]) rfl H6.out rfl _ 0 0 (i64s (l.drop j)) rfl (by rw [i64s_len, List.length_drop]; omega) hr6 (fun _ => rfl) (i64s_one _) (by omega) (by omega) ?_; intro wv7 w7 H7; obtain ⟨ga7, cap7, rfl, _⟩ := St.slice (by omega) 0 H7 rfl; obtain ⟨z7, k7, f7⟩ := St.box 1 H7 rfl; replace H7 := Lib.hid H7))
            go_ret
            have H8 := (((H7.out.set 1 rfl 0 (.slice ga7 (j + 1 + 0) cap7) (by simp)).to_read 1 rfl).arrN [1, 0, 2] rfl).drop 2 rfl
            rw [show i64s (l.take j) ++ [Value.int .i64 x] ++ i64s (l.drop j) = i64s (l.take j ++ x :: l.drop j) from by simp [i64s]] at H8
            have hpl : placed (fun y => decide (n < y)) x l = l.take j ++ x :: l.drop j := by unfold placed; rw [hfi.out]
            refine ⟨rfl, ?_⟩
            rw [hpl]
            exact refD_shut (by simp only [List.length_append, List.length_take, List.length_cons, List.length_drop]; omega) H8
          · replace hj2 := Lib.hid hj2
            replace hle := Lib.hid hle; replace hfi := Lib.hid hfi; replace E2 := Lib.hid E2; replace hr1 := Lib.hid hr1; replace ga1 := Lib.hid ga1; replace hdn := Lib.hid hdn; replace hd0 := Lib.hid hd0
            go_wp2_with (at_builtin; first | (refine wpList_appRd rfl (.tmp 39) (.tmp 45) _ rfl 3 i0 _ 1 8 Try.underlying34 hi hz hz1 hz2 rfl (by omega) 0 _ 0 [] rfl E2.out rfl _ j cap (i64s (l.take j)) rfl (by rw [i64s_len, List.length_take]; omega) hr1.out ga1.out (i64s_one _) (by omega) (by omega) ?_; intro wv5 w5 H5; (try simp only [Nat.zero_add, List.nil_append] at H5); obtain ⟨ga5, cap5, rfl, _⟩ := St.slice (by omega) 0 H5 rfl; replace H5 := Lib.hid H5) | (refine wpList_appS rfl (.tmp 47) (.tmp 49) _ rfl 3 i0 _ 1 8 Try.underlying34 hi hz hz1 hz2 rfl (by omega) 0 _ j (i64s (l.take j)) rfl H5.out rfl 1 1 [.int .i64 x] rfl rfl (by simp [Value.oneCell']) (by omega) (by omega) ?_; intro v6 w6 H6; obtain ⟨ga6, cap6, rfl, _⟩ := St.slice (by omega) 0 H6 rfl; obtain ⟨z6, k6, f6⟩ := St.box 1 H6 rfl; have hr6 := hd0.out w6 (some ⟨b, off + j, none⟩); replace H6 := Lib.hid H6) | (refine wpList_appRd rfl (.tmp 52) (.tmp 58) _ rfl 3 i0 _ 1 8 Try.underlying34 hi hz hz1 hz2 rfl (by omega) 0 _ (j + 1) (i64s (l.take j) ++ [.int .i64 x]) rfl H6.out rfl _ (l.length - j) _ (i64s (l.drop j)) rfl (by rw [i64s_len, List.length_drop]; omega) hr6 (by have := hj2.out; omega) (i64s_one _) (by omega) (by omega) ?_; intro wv7 w7 H7; obtain ⟨ga7, cap7, rfl, _⟩ := St.slice (by omega) 0 H7 rfl; obtain ⟨z7, k7, f7⟩ := St.box 1 H7 rfl; replace H7 := Lib.hid H7))
            go_ret
            have H8 := (((H7.out.set 1 rfl 0 (.slice ga7 (j + 1 + (l.length - j)) cap7) (by simp)).to_read 1 rfl).arrN [1, 0, 2] rfl).drop 2 rfl
            rw [show i64s (l.take j) ++ [Value.int .i64 x] ++ i64s (l.drop j) = i64s (l.take j ++ x :: l.drop j) from by simp [i64s]] at H8
            have hpl : placed (fun y => decide (n < y)) x l = l.take j ++ x :: l.drop j := by unfold placed; rw [hfi.out]
            refine ⟨rfl, ?_⟩
            rw [hpl]
            exact refD_shut (by simp only [List.length_append, List.length_take, List.length_cons, List.length_drop]; omega) H8
  · have q : decide (most ≤ (l.length : Int)) = true := decide_eq_true (by omega)
    rw [decide_eq_false hlt, if_neg hlt]
    clear H1
    replace H := Lib.hid H
    go_enter Try.func57, Try.ntmps57
    go_wp2_with fail
    refine wp_region_near (by kernel_rfl) (by kernel_rfl) ?_
    intro hs
    repeat (go_big_quiet_step (fail))
    refine wpQuiet_nil ?_
    clear hs
    intro w2 hb2
    have H2 := H.out.thru hb2
    replace H2 := Lib.hid H2
    go_wp2_with fail
    go_ret
    exact ⟨rfl, H2.out⟩
end Go.Proofs.Ytiaefmmcakagpaa.DockRef
