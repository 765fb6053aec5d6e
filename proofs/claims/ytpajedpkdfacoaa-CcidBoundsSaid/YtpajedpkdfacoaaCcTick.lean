
/- The walks of the package ccid, whatever a control has come to: Tick. -/
import Derived.Test.YtpajedpkdfacoaaCcTaken
namespace Go.Proofs.Ytpajedpkdfacoaa.Ccid
set_option linter.unusedSimpArgs false
set_option linter.unusedVariables false
open Go Go.RowKit Go.Shelf Go.Proofs.Ytpajedpkdfacoaa Go.Proofs.Ytpajedpkdfacoaa.Circ
open Go.Proofs.Ytpajedpkdfacoaa.Flight (Un flightA timeV OkU)
open Go.Proofs.Ytpajedpkdfacoaa.Heard (Hd heardA)
attribute [local irreducible] Calls

def tickH (h : Hd) : Hd := if 0 < h.untold then ⟨h.newest, h.came, h.untold, h.ticks + 1⟩ else h
theorem htick_st {W w : World} {S : Nat → Prop} {p : Nat} {h : Hd} {r : List Asn} (ht : 0 ≤ h.ticks ∧ h.ticks ≤ 1000000) (H : St W S w (heardA p h :: r)) :
    Calls Try.prog 65 #[.pointer (some ⟨p, 0, none⟩)] w (fun e w' => e = .returned (.tuple #[]) ∧ St W S w' (heardA p (tickH h) :: r)) := by
  obtain ⟨g, H1⟩ := Heard.heard_parts H
  obtain ⟨z, c, f⟩ := H1.box 0 rfl
  unfold Heard.hdV at c H1
  unfold tickH
  clear H
  obtain ⟨hn, hc, hu, hti⟩ := h
  simp only at *
  by_cases h0 : 0 < hu
  · have q : decide (0 < hu) = true := decide_eq_true h0
    rw [if_pos h0]
    have H2 := H1.set 0 rfl 3 (.int .i64 (hti + 1)) (by simp)
    clear H1
    replace H2 := Lib.hid H2
    go_enter Try.func65, Try.ntmps65
    go_wp2_with fail
    go_end0
    exact ⟨rfl, Heard.heard_shut (h := ⟨hn, hc, hu, hti + 1⟩) H2.out⟩
  · have q : decide (0 < hu) = false := decide_eq_false h0
    rw [if_neg h0]
    replace H1 := Lib.hid H1
    go_enter Try.func65, Try.ntmps65
    go_wp2_with fail
    go_end0
    exact ⟨rfl, Heard.heard_shut (h := ⟨hn, hc, hu, hti⟩) H1.out⟩
def waitX (x : Cc) : Int := Rtt.wait x.tk x.ts x.tv x.tl
theorem wait_any {C : Int} {x : Cc} (h : Fine C x) (w : World) :
    Calls Try.prog 67 #[.agg #[.int .i64 x.ts, .int .i64 x.tv, .int .i64 x.tl, .bool x.tk]] w (Ret w (.int .i64 (waitX x))) := by
  have h1 := h.ts0; have h2 := h.ts1; have h3 := h.tv0; have h4 := h.tv1; have h5 := h.tl
  unfold waitX
  cases hk : x.tk with
  | true => exact Rtt.timeout_old x.ts x.tv x.tl w h5 h1 (by omega) h3 (by omega)
  | false => exact Rtt.timeout_new x.ts x.tv x.tl w h5
theorem wait_bd (x : Cc) : waitX x ≤ 64 := by unfold waitX Rtt.wait; omega
def lateB (l : List Un) (x : Cc) (now : Int) : Bool := !(decide (l.length = 0) || decide (timeV now - x.since < waitX x))
def lateX (x : Cc) (next now : Int) : Cc := ⟨x.w.late next, x.rn, x.rc, x.ts, x.tv, min (x.tl + 1) 6, x.tk, x.fails + 1, timeV now⟩
def tickX (l : List Un) (x : Cc) (next now : Int) : Cc := if lateB l x now then lateX x next now else x
def tickL (l : List Un) (x : Cc) (now : Int) : List Un := if lateB l x now then [] else l
theorem late_fine {C : Int} {x : Cc} (h : Fine C x) (next now : Int) : Fine C (lateX x next now) :=
  ⟨h.win.late next, h.rn, h.rc0, h.rc1, h.ts0, h.ts1, h.tv0, h.tv1, by show min (x.tl + 1) 6 ≤ 6; omega⟩
theorem tick_fine {C : Int} {x : Cc} (h : Fine C x) (l : List Un) (next now : Int) : Fine C (tickX l x next now) := by
  unfold tickX
  split
  · exact late_fine h next now
  · exact h
set_option maxRecDepth 100000 in
set_option maxHeartbeats 2000000 in
theorem tick_st {C : Int} {W w : World} {S : Nat → Prop} {b : Nat} {hd : Hd} {l : List Un} {x : Cc} {r : List Asn} (next now : Int) (hx : Fine C x) (hf : 0 ≤ x.fails ∧ x.fails ≤ 1000000) (hsi : 0 ≤ x.since ∧ x.since ≤ 1099511627776) (hl : l.length ≤ 64)
    (ht : 0 ≤ hd.ticks ∧ hd.ticks ≤ 1000000) (H : St W S w (ctlA b hd l x :: r)) :
    Calls Try.prog 28 #[.pointer (some ⟨b, 0, none⟩), .int .i64 next, .int .i64 now] w
      (fun e w' => e = .returned (.bool (lateB l x now)) ∧ St W S w' (ctlA b (tickH hd) (tickL l x now) (tickX l x next now) :: r)) := by
  have htv : 0 ≤ timeV now ∧ timeV now ≤ 1099511627776 := by unfold timeV; omega
  have TO := fun W => wait_any hx W
  have PP := fun (w' : World) (H : St W S w' (ctlA b (tickH hd) l x :: r)) => pipe_st H
  have LW := fun W => Cwnd.late_any x.w x.w next hx.win.beg hx.win W
  have LT := fun W => Rtt.late_any x.ts x.tv x.tl x.tk W (by omega) (by have := hx.tl; omega)
  have TM := fun W => time_any now W
  obtain ⟨nl, hnl⟩ : ∃ nl, nl = min ((x.tl : Int) + 1) 6 := ⟨_, rfl⟩
  have hnl2 : ((min (x.tl + 1) 6 : Nat) : Int) = nl := by omega
  have hbw := wait_bd x
  have hnw : -1 ≤ waitX x := by unfold waitX Rtt.wait; have := Rtt.pow_bd x.tl hx.tl; have := Rtt.shl_bd (min (max (if x.tk = true then x.ts / 8 + max 1 x.tv else 8) 4) 64) x.tl hx.tl (by omega) (by omega); omega
  rw [← hnl] at LT
  obtain ⟨z, hz0⟩ : ∃ z, z = tickX l x next now := ⟨_, rfl⟩
  obtain ⟨p, f, H1⟩ := ctl_parts H
  obtain ⟨z0, c0, f0⟩ := H1.box 0 rfl
  rw [← hz0]
  have hlb : lateB l x now = !(decide (l.length = 0) || decide (timeV now - x.since < waitX x)) := rfl
  obtain ⟨lb, hlb0⟩ : ∃ lb, lateB l x now = lb := ⟨_, rfl⟩
  unfold tickX at hz0
  unfold tickL
  rw [hlb0] at hlb hz0 ⊢
  generalize waitX x = wx at *
  have PT := htick_st ht (H1.arrN [1, 0] rfl)
  clear hx H1 hnl ht hlb0 H
  have hPP : ∀ (w' : World), St W S w' (cellA b (ccV p f x) :: heardA p (tickH hd) :: flightA f l :: r) → Calls Try.prog 25 #[.pointer (some ⟨b, 0, none⟩)] w' (Ret w' (.int .i64 l.length)) := fun w' h => PP w' (ctl_shut h)
  have PD := fun (w1 : World) (S1 : Nat → Prop) (h : (flightA f l).holds w1 S1) => Flight.drop_any f l (by omega) w1 S1 h
  unfold lateX at hz0
  obtain ⟨⟨xs, xt, xc, xk, xm⟩, xrn, xrc, xts, xtv, xtl, xtk, xf, xsi⟩ := x
  unfold Cwnd.Win.late at hz0
  simp only at *
  obtain ⟨vt, hvt⟩ : ∃ vt, max (xs / 2) 2 = vt := ⟨_, rfl⟩
  rw [hvt] at LW hz0
  obtain ⟨vm, hvm⟩ : ∃ vm, ofC next = vm := ⟨_, rfl⟩
  rw [hvm] at LW hz0
  clear hvt hvm PP
  unfold ccV at c0
  simp only at c0
  replace PT := Lib.hid PT; replace TO := Lib.hid TO; replace hPP := Lib.hid hPP; replace LW := Lib.hid LW; replace LT := Lib.hid LT; replace TM := Lib.hid TM; replace PD := Lib.hid PD; replace hz0 := Lib.hid hz0; replace hlb := Lib.hid hlb; replace hnl2 := Lib.hid hnl2
  go_enter Try.func28, Try.ntmps28
  go_wp2_with fail
  refine Calls.mono PT.out ?_
  rintro e w1 ⟨rfl, H2⟩
  have H3 := H2.arrN [1, 0] rfl
  have PP := hPP.out _ H3
  obtain ⟨z1, c1, f1⟩ := H3.box 0 rfl
  unfold ccV at c1
  simp only at c1
  clear PT H2 z0 c0 f0 PP
  replace H3 := Lib.hid H3
  by_cases h0 : l.length = 0
  · have k0 : ((l.length : Int) == 0) = true := by rw [h0]; rfl
    have hl0 : lb = false := by rw [hlb.out, decide_eq_true h0]; rfl
    subst hl0
    have hz := hz0.out
    simp only [Bool.false_eq_true, if_false] at hz ⊢
    subst hz
    clear hlb hz0 LW LT PD
    go_wp2_with fail
    refine wp_region_near (by kernel_rfl) (by kernel_rfl) ?_
    intro hs
    repeat (go_big_quiet_step ((first | (go_at_call 25; exact Calls.near (by simp) (hPP.out _ (H3.out.thru (Near.near _)))) | (go_at_call 66; exact Calls.near (by simp) (time_any now _)) | (go_at_call 67; exact Calls.near (by simp) (TO.out _)))))
    refine wpQuiet_nil ?_
    clear hs
    intro w4 hb4
    have H4 := H3.out.thru hb4
    clear H3 z1 c1 f1 hPP
    replace H4 := Lib.hid H4
    go_wp2_with fail
    go_ret
    exact ⟨rfl, ctl_shut H4.out⟩
  · have k0 : ((l.length : Int) == 0) = false := by rw [beq_eq_false_iff_ne]; omega
    by_cases h1 : timeV now - xsi < wx
    · have k1 : decide (timeV now - xsi < wx) = true := decide_eq_true h1
      have hl0 : lb = false := by rw [hlb.out, k1, Bool.or_true]; rfl
      subst hl0
      have hz := hz0.out
      simp only [Bool.false_eq_true, if_false] at hz ⊢
      subst hz
      clear hlb hz0 LW LT PD
      go_wp2_with fail
      refine wp_region_near (by kernel_rfl) (by kernel_rfl) ?_
      intro hs
      repeat (go_big_quiet_step ((first | (go_at_call 25; exact Calls.near (by simp) (hPP.out _ (H3.out.thru (Near.near _)))) | (go_at_call 66; exact Calls.near (by simp) (time_any now _)) | (go_at_call 67; exact Calls.near (by simp) (TO.out _)))))
      refine wpQuiet_nil ?_
      clear hs
      intro w4 hb4
      have H4 := H3.out.thru hb4
      clear H3 z1 c1 f1 hPP
      replace H4 := Lib.hid H4
      go_wp2_with fail
      go_ret
      exact ⟨rfl, ctl_shut H4.out⟩
    · have k1 : decide (timeV now - xsi < wx) = false := decide_eq_false h1
      have hl0 : lb = true := by rw [hlb.out, k1, decide_eq_false h0]; rfl
      subst hl0
      have hz := hz0.out
      simp only [if_true, hnl2.out] at hz ⊢
      clear hlb hz0
      replace hz := Lib.hid hz
      go_wp2_with fail
      refine wp_region_near (by kernel_rfl) (by kernel_rfl) ?_
      intro hs
      repeat (go_big_quiet_step ((first | (go_at_call 25; exact Calls.near (by simp) (hPP.out _ (H3.out.thru (Near.near _)))) | (go_at_call 66; exact Calls.near (by simp) (time_any now _)) | (go_at_call 67; exact Calls.near (by simp) (TO.out _)))))
      refine wpQuiet_nil ?_
      clear hs
      intro w4 hb4
      have H4 := H3.out.thru hb4
      obtain ⟨z4, c4, f4⟩ := H4.box 0 rfl
      unfold ccV at c4
      simp only at c4
      obtain ⟨S1, h5, _, k5⟩ := (H4.arrN [2, 0, 1] rfl).at 0 rfl
      have P5 := PD.out _ S1 h5
      clear H3 z1 c1 f1 h5 PD hPP
      replace P5 := Lib.hid P5; replace k5 := Lib.hid k5
      go_wp2_with fail
      refine Calls.mono P5.out ?_
      rintro e w5 ⟨rfl, h6⟩
      have H5 : St W S w5 (cellA b (ccV p f ⟨⟨xs, xt, xc, xk, xm⟩, xrn, xrc, xts, xtv, xtl, xtk, xf, xsi⟩) :: heardA p (tickH hd) :: flightA f [] :: r) := (k5.out _ _ h6).arrN [1, 2, 0] rfl
      obtain ⟨z5, c5, f5⟩ := H5.box 0 rfl
      unfold ccV at c5
      simp only at c5
      clear P5 k5 H4 z4 c4 f4 h6
      replace H5 := Lib.hid H5
      have hn2 : ((min (xtl + 1) 6 : Nat) : Int) = nl := hnl2.out
      go_wp2_with fail
      have Hn : St W S _ [] := H5.out.drops 0
      haveI := St.ne Hn
      refine wp_region_madeC Hn [0, 1, 2, 3, 4, 6, 8, 9, 10] [true, true, true, true, true, false, true, false, true, true, true, false, false, false, false, false, false, false, false] 10 #[true, true, true, true, true, false, true, false, true, true, true, false, false, false, false, false, false, false, false] (by kernel_rfl) rfl (by kernel_rfl) (by kernel_rfl) rfl (by kernel_rfl) (by kernel_rfl) (by intro c a a' w e h; obtain ⟨t, d⟩ := a; obtain ⟨t', d'⟩ := a'; obtain rfl : d = d' := e; exact h) ?_
      simp only [pickB]
      repeat (go_big_quiet_step (fail))
      refine wpQuiet_nil ?_
      refine held_two (i := 5) (j := 11) (by kernel_rfl) (fun K hK => ?_) (fun K hK => ?_) <;> simp only [List.drop_succ_cons, List.drop_zero, List.take_succ_cons, List.take_zero]
      · go_wp2_with fail
        refine hK _ _ Hn.drew ?_
        clear hK K
        refine held_two (i := 7) (j := 11) (by kernel_rfl) (fun K hK => ?_) (fun K hK => ?_) <;> simp only [List.drop_succ_cons, List.drop_zero, List.take_succ_cons, List.take_zero]
        · go_wp2_with fail
          refine Calls.mono (LW.out _) ?_
          rintro e w7 ⟨rfl, hb7⟩
          have z7 := Below.size hb7; try simp only [World.size_alloc, World.size_setCell, World.size_drew] at z7
          have H6 := H5.out.drew.thru hb7
          have Hn6 : St W S _ [] := H6.drops 0
          obtain ⟨z6, c6, f6⟩ := H6.box 0 rfl
          unfold ccV at c6
          simp only at c6
          go_wp2_with fail
          refine hK _ _ Hn6 ?_
          clear hK K
          refine held_one (i := 11) (by kernel_rfl) fun K hK => ?_
          simp only [List.drop_succ_cons, List.drop_zero, List.take_succ_cons, List.take_zero]
          go_wp2_with fail
          refine hK _ _ Hn6 ?_
          clear hK K
          refine held_one (i := 12) (by kernel_rfl) fun K hK => ?_
          simp only [List.drop_succ_cons, List.drop_zero, List.take_succ_cons, List.take_zero]
          go_wp2_with fail
          refine Calls.mono (LT.out _) ?_
          rintro e w8 ⟨rfl, hb8⟩
          have z8 := Below.size hb8; try simp only [World.size_alloc, World.size_setCell, World.size_drew] at z8
          have H7 := H6.thru hb8
          have Hn3 : St W S _ [] := H7.drops 0
          go_wp2_with fail
          refine hK _ _ Hn3 ?_
          clear hK K
          haveI := St.ne Hn3
          refine calmC Hn3 [13, 14] [false, false, false, false, false, false, false, false, false, false, false, false, false, true, true, false, false, false, false] 4 6 #[true, true, true, true, true, true, true, true, true, true, true, true, true, false, false, false, false, false, false] #[true, true, true, true, true, true, true, true, true, true, true, true, true, true, true, false, false, false, false] rfl (by kernel_rfl) (by kernel_rfl) rfl (by kernel_rfl) (by kernel_rfl) (by intro c a a' w e h; obtain ⟨t, d⟩ := a; obtain ⟨t', d'⟩ := a'; obtain rfl : d = d' := e; exact h) ?_
          simp only [pickB]
          repeat (go_big_quiet_step (fail))
          refine wpQuiet_nil ?_
          refine held_one (i := 15) (by kernel_rfl) fun K hK => ?_
          simp only [List.drop_succ_cons, List.drop_zero, List.take_succ_cons, List.take_zero]
          obtain ⟨zb2, cb2, fb2⟩ := H7.box 0 rfl
          unfold ccV at cb2 H7
          simp only at cb2 H7
          have H8 := ((((H7.set 0 rfl 2 (.int .i64 1) (by simp)).set 0 rfl 3 (.int .i64 vt) (by simp)).set 0 rfl 4 (.int .i64 0) (by simp)).set 0 rfl 5 (.bool true) (by simp)).set 0 rfl 6 (.int .i64 vm) (by simp)
          have H9 := (((H8.set 0 rfl 9 (.int .i64 xts) (by simp)).set 0 rfl 10 (.int .i64 xtv) (by simp)).set 0 rfl 11 (.int .i64 nl) (by simp)).set 0 rfl 12 (.bool xtk) (by simp)
          have Hn4 : St W S _ [] := H8.drops 0
          go_wp2_with fail
          refine hK _ _ Hn4 ?_
          clear hK K
          haveI := St.ne Hn4
          refine calmC Hn4 [16, 17] [false, false, false, false, false, false, false, false, false, false, false, false, false, false, false, false, true, true, false] 1 3 #[true, true, true, true, true, true, true, true, true, true, true, true, true, true, true, true, false, false, false] #[true, true, true, true, true, true, true, true, true, true, true, true, true, true, true, true, true, true, false] rfl (by kernel_rfl) (by kernel_rfl) rfl (by kernel_rfl) (by kernel_rfl) (by intro c a a' w e h; obtain ⟨t, d⟩ := a; obtain ⟨t', d'⟩ := a'; obtain rfl : d = d' := e; exact h) ?_
          simp only [pickB]
          repeat (go_big_quiet_step (fail))
          refine wpQuiet_nil ?_
          refine held_one (i := 18) (by kernel_rfl) fun K hK => ?_
          simp only [List.drop_succ_cons, List.drop_zero, List.take_succ_cons, List.take_zero]
          obtain ⟨zb3, cb3, fb3⟩ := H8.box 0 rfl
          have Hn5 : St W S _ [] := H9.drops 0
          clear H7
          replace H8 := Lib.hid H8; replace H9 := Lib.hid H9
          go_wp2_with fail
          refine hK _ _ Hn5 ?_
          clear hK K
          refine held_done (by kernel_rfl) ?_
          obtain ⟨zb4, cb4, fb4⟩ := H9.out.box 0 rfl
          have H10 := H9.out.set 0 rfl 13 (.int .i64 (xf + 1)) (by simp)
          clear H8 H9
          replace H10 := Lib.hid H10
          go_wp2_with fail
          refine Calls.mono (time_any now _) ?_
          rintro e w9 ⟨rfl, hb9⟩
          have z9 := Below.size hb9; try simp only [World.size_alloc, World.size_setCell, World.size_drew] at z9
          have H11 := H10.out.thru hb9
          obtain ⟨zb5, cb5, fb5⟩ := H11.box 0 rfl
          have H12 := H11.set 0 rfl 14 (.int .i64 (timeV now)) (by simp)
          clear H10 H11
          replace H12 := Lib.hid H12
          go_wp2_with fail
          go_ret
          refine ⟨rfl, ?_⟩
          rw [hz.out]
          refine ctl_shut (p := p) (f := f) ?_
          unfold ccV
          simp only [hnl2.out]
          exact H12.out
        · go_wp2_with fail
          refine hK _ _ Hn.drew ?_
          clear hK K
          refine held_one (i := 7) (by kernel_rfl) fun K hK => ?_
          simp only [List.drop_succ_cons, List.drop_zero, List.take_succ_cons, List.take_zero]
          go_wp2_with fail
          refine Calls.mono (LW.out _) ?_
          rintro e w7 ⟨rfl, hb7⟩
          have z7 := Below.size hb7; try simp only [World.size_alloc, World.size_setCell, World.size_drew] at z7
          have H6 := H5.out.drew.thru hb7
          have Hn6 : St W S _ [] := H6.drops 0
          obtain ⟨z6, c6, f6⟩ := H6.box 0 rfl
          unfold ccV at c6
          simp only at c6
          go_wp2_with fail
          refine hK _ _ Hn6 ?_
          clear hK K
          refine held_one (i := 12) (by kernel_rfl) fun K hK => ?_
          simp only [List.drop_succ_cons, List.drop_zero, List.take_succ_cons, List.take_zero]
          go_wp2_with fail
          refine Calls.mono (LT.out _) ?_
          rintro e w8 ⟨rfl, hb8⟩
          have z8 := Below.size hb8; try simp only [World.size_alloc, World.size_setCell, World.size_drew] at z8
          have H7 := H6.thru hb8
          have Hn3 : St W S _ [] := H7.drops 0
          go_wp2_with fail
          refine hK _ _ Hn3 ?_
          clear hK K
          haveI := St.ne Hn3
          refine calmC Hn3 [13, 14] [false, false, false, false, false, false, false, false, false, false, false, false, false, true, true, false, false, false, false] 4 6 #[true, true, true, true, true, true, true, true, true, true, true, true, true, false, false, false, false, false, false] #[true, true, true, true, true, true, true, true, true, true, true, true, true, true, true, false, false, false, false] rfl (by kernel_rfl) (by kernel_rfl) rfl (by kernel_rfl) (by kernel_rfl) (by intro c a a' w e h; obtain ⟨t, d⟩ := a; obtain ⟨t', d'⟩ := a'; obtain rfl : d = d' := e; exact h) ?_
          simp only [pickB]
          repeat (go_big_quiet_step (fail))
          refine wpQuiet_nil ?_
          refine held_one (i := 15) (by kernel_rfl) fun K hK => ?_
          simp only [List.drop_succ_cons, List.drop_zero, List.take_succ_cons, List.take_zero]
          obtain ⟨zb2, cb2, fb2⟩ := H7.box 0 rfl
          unfold ccV at cb2 H7
          simp only at cb2 H7
          have H8 := ((((H7.set 0 rfl 2 (.int .i64 1) (by simp)).set 0 rfl 3 (.int .i64 vt) (by simp)).set 0 rfl 4 (.int .i64 0) (by simp)).set 0 rfl 5 (.bool true) (by simp)).set 0 rfl 6 (.int .i64 vm) (by simp)
          have H9 := (((H8.set 0 rfl 9 (.int .i64 xts) (by simp)).set 0 rfl 10 (.int .i64 xtv) (by simp)).set 0 rfl 11 (.int .i64 nl) (by simp)).set 0 rfl 12 (.bool xtk) (by simp)
          have Hn4 : St W S _ [] := H8.drops 0
          go_wp2_with fail
          refine hK _ _ Hn4 ?_
          clear hK K
          haveI := St.ne Hn4
          refine calmC Hn4 [16, 17] [false, false, false, false, false, false, false, false, false, false, false, false, false, false, false, false, true, true, false] 1 3 #[true, true, true, true, true, true, true, true, true, true, true, true, true, true, true, true, false, false, false] #[true, true, true, true, true, true, true, true, true, true, true, true, true, true, true, true, true, true, false] rfl (by kernel_rfl) (by kernel_rfl) rfl (by kernel_rfl) (by kernel_rfl) (by intro c a a' w e h; obtain ⟨t, d⟩ := a; obtain ⟨t', d'⟩ := a'; obtain rfl : d = d' := e; exact h) ?_
          simp only [pickB]
          repeat (go_big_quiet_step (fail))
          refine wpQuiet_nil ?_
          refine held_one (i := 18) (by kernel_rfl) fun K hK => ?_
          simp only [List.drop_succ_cons, List.drop_zero, List.take_succ_cons, List.take_zero]
          obtain ⟨zb3, cb3, fb3⟩ := H8.box 0 rfl
          have Hn5 : St W S _ [] := H9.drops 0
          clear H7
          replace H8 := Lib.hid H8; replace H9 := Lib.hid H9
          go_wp2_with fail
          refine hK _ _ Hn5 ?_
          clear hK K
          refine held_done (by kernel_rfl) ?_
          obtain ⟨zb4, cb4, fb4⟩ := H9.out.box 0 rfl
          have H10 := H9.out.set 0 rfl 13 (.int .i64 (xf + 1)) (by simp)
          clear H8 H9
          replace H10 := Lib.hid H10
          go_wp2_with fail
          refine Calls.mono (time_any now _) ?_
          rintro e w9 ⟨rfl, hb9⟩
          have z9 := Below.size hb9; try simp only [World.size_alloc, World.size_setCell, World.size_drew] at z9
          have H11 := H10.out.thru hb9
          obtain ⟨zb5, cb5, fb5⟩ := H11.box 0 rfl
          have H12 := H11.set 0 rfl 14 (.int .i64 (timeV now)) (by simp)
          clear H10 H11
          replace H12 := Lib.hid H12
          go_wp2_with fail
          go_ret
          refine ⟨rfl, ?_⟩
          rw [hz.out]
          refine ctl_shut (p := p) (f := f) ?_
          unfold ccV
          simp only [hnl2.out]
          exact H12.out
      · go_wp2_with fail
        refine hK _ _ Hn.drew ?_
        clear hK K
        refine held_one (i := 5) (by kernel_rfl) fun K hK => ?_
        simp only [List.drop_succ_cons, List.drop_zero, List.take_succ_cons, List.take_zero]
        go_wp2_with fail
        refine hK _ _ Hn.drew ?_
        clear hK K
        refine held_one (i := 7) (by kernel_rfl) fun K hK => ?_
        simp only [List.drop_succ_cons, List.drop_zero, List.take_succ_cons, List.take_zero]
        go_wp2_with fail
        refine Calls.mono (LW.out _) ?_
        rintro e w7 ⟨rfl, hb7⟩
        have z7 := Below.size hb7; try simp only [World.size_alloc, World.size_setCell, World.size_drew] at z7
        have H6 := H5.out.drew.thru hb7
        have Hn6 : St W S _ [] := H6.drops 0
        obtain ⟨z6, c6, f6⟩ := H6.box 0 rfl
        unfold ccV at c6
        simp only at c6
        go_wp2_with fail
        refine hK _ _ Hn6 ?_
        clear hK K
        refine held_one (i := 12) (by kernel_rfl) fun K hK => ?_
        simp only [List.drop_succ_cons, List.drop_zero, List.take_succ_cons, List.take_zero]
        go_wp2_with fail
        refine Calls.mono (LT.out _) ?_
        rintro e w8 ⟨rfl, hb8⟩
        have z8 := Below.size hb8; try simp only [World.size_alloc, World.size_setCell, World.size_drew] at z8
        have H7 := H6.thru hb8
        have Hn3 : St W S _ [] := H7.drops 0
        go_wp2_with fail
        refine hK _ _ Hn3 ?_
        clear hK K
        haveI := St.ne Hn3
        refine calmC Hn3 [13, 14] [false, false, false, false, false, false, false, false, false, false, false, false, false, true, true, false, false, false, false] 4 6 #[true, true, true, true, true, true, true, true, true, true, true, true, true, false, false, false, false, false, false] #[true, true, true, true, true, true, true, true, true, true, true, true, true, true, true, false, false, false, false] rfl (by kernel_rfl) (by kernel_rfl) rfl (by kernel_rfl) (by kernel_rfl) (by intro c a a' w e h; obtain ⟨t, d⟩ := a; obtain ⟨t', d'⟩ := a'; obtain rfl : d = d' := e; exact h) ?_
        simp only [pickB]
        repeat (go_big_quiet_step (fail))
        refine wpQuiet_nil ?_
        refine held_one (i := 15) (by kernel_rfl) fun K hK => ?_
        simp only [List.drop_succ_cons, List.drop_zero, List.take_succ_cons, List.take_zero]
        obtain ⟨zb2, cb2, fb2⟩ := H7.box 0 rfl
        unfold ccV at cb2 H7
        simp only at cb2 H7
        have H8 := ((((H7.set 0 rfl 2 (.int .i64 1) (by simp)).set 0 rfl 3 (.int .i64 vt) (by simp)).set 0 rfl 4 (.int .i64 0) (by simp)).set 0 rfl 5 (.bool true) (by simp)).set 0 rfl 6 (.int .i64 vm) (by simp)
        have H9 := (((H8.set 0 rfl 9 (.int .i64 xts) (by simp)).set 0 rfl 10 (.int .i64 xtv) (by simp)).set 0 rfl 11 (.int .i64 nl) (by simp)).set 0 rfl 12 (.bool xtk) (by simp)
        have Hn4 : St W S _ [] := H8.drops 0
        go_wp2_with fail
        refine hK _ _ Hn4 ?_
        clear hK K
        haveI := St.ne Hn4
        refine calmC Hn4 [16, 17] [false, false, false, false, false, false, false, false, false, false, false, false, false, false, false, false, true, true, false] 1 3 #[true, true, true, true, true, true, true, true, true, true, true, true, true, true, true, true, false, false, false] #[true, true, true, true, true, true, true, true, true, true, true, true, true, true, true, true, true, true, false] rfl (by kernel_rfl) (by kernel_rfl) rfl (by kernel_rfl) (by kernel_rfl) (by intro c a a' w e h; obtain ⟨t, d⟩ := a; obtain ⟨t', d'⟩ := a'; obtain rfl : d = d' := e; exact h) ?_
        simp only [pickB]
        repeat (go_big_quiet_step (fail))
        refine wpQuiet_nil ?_
        refine held_one (i := 18) (by kernel_rfl) fun K hK => ?_
        simp only [List.drop_succ_cons, List.drop_zero, List.take_succ_cons, List.take_zero]
        obtain ⟨zb3, cb3, fb3⟩ := H8.box 0 rfl
        have Hn5 : St W S _ [] := H9.drops 0
        clear H7
        replace H8 := Lib.hid H8; replace H9 := Lib.hid H9
        go_wp2_with fail
        refine hK _ _ Hn5 ?_
        clear hK K
        refine held_done (by kernel_rfl) ?_
        obtain ⟨zb4, cb4, fb4⟩ := H9.out.box 0 rfl
        have H10 := H9.out.set 0 rfl 13 (.int .i64 (xf + 1)) (by simp)
        clear H8 H9
        replace H10 := Lib.hid H10
        go_wp2_with fail
        refine Calls.mono (time_any now _) ?_
        rintro e w9 ⟨rfl, hb9⟩
        have z9 := Below.size hb9; try simp only [World.size_alloc, World.size_setCell, World.size_drew] at z9
        have H11 := H10.out.thru hb9
        obtain ⟨zb5, cb5, fb5⟩ := H11.box 0 rfl
        have H12 := H11.set 0 rfl 14 (.int .i64 (timeV now)) (by simp)
        clear H10 H11
        replace H12 := Lib.hid H12
        go_wp2_with fail
        go_ret
        refine ⟨rfl, ?_⟩
        rw [hz.out]
        refine ctl_shut (p := p) (f := f) ?_
        unfold ccV
        simp only [hnl2.out]
        exact H12.out
end Go.Proofs.Ytpajedpkdfacoaa.Ccid
