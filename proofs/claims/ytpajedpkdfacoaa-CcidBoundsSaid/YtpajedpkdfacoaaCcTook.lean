
/- The walks of the package ccid, whatever a control has come to: came, Took. -/
import Derived.Test.YtpajedpkdfacoaaCc
namespace Go.Proofs.Ytpajedpkdfacoaa.Ccid
set_option linter.unusedSimpArgs false
set_option linter.unusedVariables false
open Go Go.RowKit Go.Shelf Go.Proofs.Ytpajedpkdfacoaa Go.Proofs.Ytpajedpkdfacoaa.Circ
open Go.Proofs.Ytpajedpkdfacoaa.Flight (Un flightA putU putOk timeV OkU newsV newsL hearA leftU lostU newestU)
open Go.Proofs.Ytpajedpkdfacoaa.Heard (Hd heardA gotD)
open Go.Proofs.Ytpajedpkdfacoaa.Avec (Run runs findV eachL)
open Go.Proofs.Ytpajedpkdfacoaa.Rtt (clip clip_bd)
open Go.Proofs.Ytpajedpkdfacoaa.Ratio (fitN goodN held held_bd)
attribute [local irreducible] Calls

/-- What a control may have come to, of which nothing runs over. -/
structure Fine (C : Int) (x : Cc) : Prop where
  win : x.w.Ok
  rn : x.rn ≤ 14
  rc0 : 0 ≤ x.rc
  rc1 : x.rc ≤ C
  ts0 : 0 ≤ x.ts
  ts1 : x.ts ≤ 519
  tv0 : 0 ≤ x.tv
  tv1 : x.tv ≤ 259
  tl : x.tl ≤ 6
def tripS (x : Cc) (t : Int) : Int := if x.tk then x.ts + (clip t - x.ts / 8) else 8 * clip t
def tripV (x : Cc) (t : Int) : Int := if x.tk then x.tv + (max (clip t - x.ts / 8) (-(clip t - x.ts / 8)) - x.tv / 4) else 2 * clip t
def nextN (x : Cc) (a : Int) (s : Int) : Int := if 2 * ((x.rn : Int) + 1) < a then fitN (2 * ((x.rn : Int) + 1) - 1) s else fitN (goodN s x.rn (x.rc + min (max a 0) 1000)).1 s
def nextC (x : Cc) (a : Int) (s : Int) : Int := if 2 * ((x.rn : Int) + 1) < a then 0 else (goodN s x.rn (x.rc + min (max a 0) 1000)).2
def cameX (x : Cc) (a t : Int) (full : Bool) (now : Int) : Cc :=
  ⟨x.w.acked a full, (nextN x a (x.w.acked a full).s).toNat, nextC x a (x.w.acked a full).s, tripS x t, tripV x t, 0, true, 0, timeV now⟩
def lossX (x : Cc) (lost marked newest fr next : Int) : Cc := if 0 < lost then { x with w := x.w.lost newest next } else if 0 < marked then { x with w := x.w.lost fr next } else x
def fitX (x : Cc) : Cc := { x with rn := (fitN x.rn x.w.s).toNat }
theorem fitN_bd {n : Int} (s : Int) (h : 0 ≤ n) : 0 ≤ fitN n s ∧ fitN n s ≤ 14 ∧ fitN n s ≤ n := by
  have := held_bd s
  unfold fitN
  omega
theorem goodN_bd (s : Int) : ∀ (k : Nat) (c : Int), k ≤ 14 → 0 ≤ c → 0 ≤ (goodN s k c).2 ∧ (goodN s k c).2 ≤ c
  | 0, c, _, h => ⟨h, Int.le_refl _⟩
  | k + 1, c, hk, h => by
    unfold goodN
    split
    · exact ⟨h, Int.le_refl _⟩
    · rename_i hn
      have hb := (Ratio.need_bd s (k + 1) hk).2.2
      have := goodN_bd s k (c - Ratio.need s (k + 1)) (by omega) (by omega)
      omega
theorem nextN_bd {C : Int} {x : Cc} (h : Fine C x) (a s : Int) : 0 ≤ nextN x a s ∧ nextN x a s ≤ 14 := by
  unfold nextN
  split
  · have := fitN_bd s (n := 2 * ((x.rn : Int) + 1) - 1) (by omega); omega
  · have := fitN_bd s (n := ((goodN s x.rn (x.rc + min (max a 0) 1000)).1 : Int)) (by omega); omega
theorem came_fine {C : Int} {x : Cc} (h : Fine C x) (hC : 0 ≤ C) (a t : Int) (full : Bool) (now : Int) : Fine (C + 1000) (cameX x a t full now) := by
  have hn := nextN_bd h a (x.w.acked a full).s
  have hc := clip_bd t
  refine ⟨h.win.acked a full, ?_, ?_, ?_, ?_, ?_, ?_, ?_, ?_⟩
  · show (nextN x a (x.w.acked a full).s).toNat ≤ 14
    omega
  · show 0 ≤ nextC x a (x.w.acked a full).s
    unfold nextC
    split
    · omega
    · exact (goodN_bd _ _ _ h.rn (by have := h.rc0; omega)).1
  · show nextC x a (x.w.acked a full).s ≤ C + 1000
    unfold nextC
    split
    · omega
    · have := (goodN_bd (x.w.acked a full).s x.rn (x.rc + min (max a 0) 1000) h.rn (by have := h.rc0; omega)).2
      have := h.rc1
      omega
  all_goals (have h1 := h.ts0; have h2 := h.ts1; have h3 := h.tv0; have h4 := h.tv1)
  · show 0 ≤ tripS x t
    unfold tripS
    split <;> omega
  · show tripS x t ≤ 519
    unfold tripS
    split <;> omega
  · show 0 ≤ tripV x t
    unfold tripV
    split <;> omega
  · show tripV x t ≤ 259
    unfold tripV
    split <;> omega
  · exact Nat.zero_le _
theorem loss_fine {C : Int} {x : Cc} (h : Fine C x) (lost marked newest fr next : Int) : Fine C (lossX x lost marked newest fr next) := by
  unfold lossX
  split
  · exact ⟨h.win.lost _ _, h.rn, h.rc0, h.rc1, h.ts0, h.ts1, h.tv0, h.tv1, h.tl⟩
  · split
    · exact ⟨h.win.lost _ _, h.rn, h.rc0, h.rc1, h.ts0, h.ts1, h.tv0, h.tv1, h.tl⟩
    · exact h
theorem fit_fine {C : Int} {x : Cc} (h : Fine C x) : Fine C (fitX x) := by
  refine ⟨h.win, ?_, h.rc0, h.rc1, h.ts0, h.ts1, h.tv0, h.tv1, h.tl⟩
  show (fitN x.rn x.w.s).toNat ≤ 14
  have := fitN_bd x.w.s (n := (x.rn : Int)) (by omega)
  omega
theorem trips_any {C : Int} {x : Cc} (h : Fine C x) (t : Int) (w : World) :
    Calls Try.prog 127 #[.agg #[.int .i64 x.ts, .int .i64 x.tv, .int .i64 x.tl, .bool x.tk], .int .i64 t] w (Ret w (.agg #[.int .i64 (tripS x t), .int .i64 (tripV x t), .int .i64 0, .bool true])) := by
  have h1 := h.ts0; have h2 := h.ts1; have h3 := h.tv0; have h4 := h.tv1
  unfold tripS tripV
  cases hk : x.tk with
  | true => exact Rtt.took_old x.ts x.tv x.tl t w h1 (by omega) h3 (by omega)
  | false => exact Rtt.took_new x.ts x.tv x.tl t w
set_option maxRecDepth 100000 in
theorem came_st {C : Int} {W w : World} {S : Nat → Prop} {b p f : Nat} {x : Cc} {r : List Asn} (a lost mark t nw : Int) (full : Bool) (now : Int) (hx : Fine C x) (hC : C ≤ 990000) (H : St W S w (cellA b (ccV p f x) :: r)) :
    Calls Try.prog 90 #[.pointer (some ⟨b, 0, none⟩), .agg #[.int .i64 a, .int .i64 lost, .int .i64 mark, .int .i64 t, .int .i64 nw], .bool full, .int .i64 now] w (fun e w' => e = .returned (.tuple #[]) ∧ St W S w' (cellA b (ccV p f (cameX x a t full now)) :: r)) := by
  have T := fun W => trips_any hx t W
  have A := fun W => Cwnd.acked_any x.w x.w a full hx.win.beg hx.win W
  have hY := hx.win.acked a full
  have Z := fun W => Cwnd.size_any (x.w.acked a full) W
  rw [hY.beg] at Z
  have hn := nextN_bd hx a (x.w.acked a full).s
  have V := fun W => Ratio.value_any x.rn x.rc W (by omega) (by have := hx.rn; omega)
  have L := fun W s => Ratio.lost_any x.rn x.rc s W (by omega) (by have := hx.rn; omega)
  have G := fun W s => Ratio.good_any x.rn x.rc a s W hx.rn hx.rc0 (by have := hx.rc1; omega)
  have hfin : cameX x a t full now = ⟨x.w.acked a full, (nextN x a (x.w.acked a full).s).toNat, nextC x a (x.w.acked a full).s, tripS x t, tripV x t, 0, true, 0, timeV now⟩ := rfl
  have hr0 : (0 : Int) ≤ x.rn := by omega
  have hr1 : (x.rn : Int) ≤ 14 := by have := hx.rn; omega
  generalize tripS x t = gs at *
  generalize tripV x t = gv at *
  obtain ⟨nN, hnN⟩ : ∃ nN, nextN x a (x.w.acked a full).s = nN := ⟨_, rfl⟩
  obtain ⟨nC, hnC⟩ : ∃ nC, nextC x a (x.w.acked a full).s = nC := ⟨_, rfl⟩
  rw [hnN] at hn
  rw [hfin, hnN, hnC]
  unfold nextN at hnN
  unfold nextC at hnC
  have hcast : ((nN.toNat : Nat) : Int) = nN := Int.toNat_of_nonneg hn.1
  generalize hw' : x.w.acked a full = y at *
  obtain ⟨ys, yt, yc, yk, ym⟩ := y
  obtain ⟨⟨xs, xt, xc, xk, xm⟩, xrn, xrc, xts, xtv, xtl, xtk, xf, xsi⟩ := x
  simp only at *
  clear hw' hfin hx hY hC
  unfold ccV at H
  simp only at H
  have H1 := H.alloc [.int .i64 a, .int .i64 lost, .int .i64 mark, .int .i64 t, .int .i64 nw] 135
  have m1 : ¬ w.heap.size = b := H1.ne_cells 0 1 rfl rfl (by decide)
  have m1' : ¬ b = w.heap.size := fun e => m1 e.symm
  obtain ⟨zb, cb, fb⟩ := H.box 0 rfl
  clear H
  replace H1 := Lib.hid H1; replace T := Lib.hid T; replace A := Lib.hid A; replace Z := Lib.hid Z; replace V := Lib.hid V; replace L := Lib.hid L; replace G := Lib.hid G; replace hnN := Lib.hid hnN; replace hnC := Lib.hid hnC; replace hcast := Lib.hid hcast
  go_enter Try.func90, Try.ntmps90
  go_wp2_with fail
  refine wp_region_near_tail 10 (by kernel_rfl) (by kernel_rfl) ?_
  intro hs
  simp only [List.take_succ_cons, List.take_zero, List.drop_succ_cons, List.drop_zero]
  repeat (go_big_quiet_step ((first | (go_at_call 127; exact Calls.near (by simp) (T.out _)))))
  refine wpQuiet_nil ?_
  clear hs
  intro w1 hb1
  have H2 := H1.out.thru hb1
  clear H1 zb cb fb
  obtain ⟨zb, cb, fb⟩ := H2.box 1 rfl
  have H3 := (((H2.set 1 rfl 9 (.int .i64 gs) (by simp)).set 0 rfl 10 (.int .i64 gv) (by simp)).set 0 rfl 11 (.int .i64 0) (by simp)).set 0 rfl 12 (.bool true) (by simp)
  replace H2 := Lib.hid H2; replace H3 := Lib.hid H3
  go_wp2_with fail
  refine Calls.mono (time_any now _) ?_
  rintro e w2 ⟨rfl, hb2⟩
  have z2 := Below.size hb2; try simp only [World.size_alloc, World.size_setCell, World.size_drew] at z2
  have H4 := H3.out.thru hb2
  clear H2 H3 zb cb fb
  obtain ⟨zb, cb, fb⟩ := H4.box 0 rfl
  have H5 := (H4.set 0 rfl 13 (.int .i64 0) (by simp)).set 0 rfl 14 (.int .i64 (timeV now)) (by simp)
  obtain ⟨z6, c6, f6⟩ := H4.box 1 rfl
  replace H4 := Lib.hid H4; replace H5 := Lib.hid H5
  go_wp2_with fail
  refine wp_region_near_tail 11 (by kernel_rfl) (by kernel_rfl) ?_
  intro hs
  simp only [List.take_succ_cons, List.take_zero, List.drop_succ_cons, List.drop_zero]
  repeat (go_big_quiet_step ((first | (go_at_call 128; exact Calls.near (by simp) (A.out _)))))
  refine wpQuiet_nil ?_
  clear hs
  intro w3 hb3
  have H6 := H5.out.thru hb3
  clear H4 H5 zb cb fb z6 c6 f6
  obtain ⟨zb, cb, fb⟩ := H6.box 0 rfl
  obtain ⟨z6, c6, f6⟩ := H6.box 1 rfl
  have H7 := ((((H6.set 0 rfl 2 (.int .i64 ys) (by simp)).set 0 rfl 3 (.int .i64 yt) (by simp)).set 0 rfl 4 (.int .i64 yc) (by simp)).set 0 rfl 5 (.bool yk) (by simp)).set 0 rfl 6 (.int .i64 ym) (by simp)
  replace H6 := Lib.hid H6; replace H7 := Lib.hid H7
  go_wp2_with fail
  refine wp_region_near (by kernel_rfl) (by kernel_rfl) ?_
  intro hs
  repeat (go_big_quiet_step ((first | (go_at_call 64; exact Calls.near (by simp) (V.out _)))))
  refine wpQuiet_nil ?_
  clear hs
  intro w4 hb4
  have H8 := H7.out.thru hb4
  clear H6 H7 zb cb fb z6 c6 f6
  obtain ⟨zb, cb, fb⟩ := H8.box 0 rfl
  obtain ⟨z6, c6, f6⟩ := H8.box 1 rfl
  replace H8 := Lib.hid H8
  by_cases hbig : 2 * ((xrn : Int) + 1) < a
  · have q : decide (2 * ((xrn : Int) + 1) < a) = true := decide_eq_true hbig
    simp only [if_pos hbig] at hnN hnC

    go_wp2_with fail
    refine wp_region_near_tail 13 (by kernel_rfl) (by kernel_rfl) ?_
    intro hs
    simp only [List.take_succ_cons, List.take_zero, List.drop_succ_cons, List.drop_zero]
    repeat (go_big_quiet_step ((first | (go_at_call 63; exact Calls.near (by simp) (Z.out _)) | (go_at_call 129; exact Calls.near (by simp) (L.out _ _)))))
    refine wpQuiet_nil ?_
    clear hs
    intro w5 hb5
    have H9 := H8.out.thru hb5
    clear H8 zb cb fb z6 c6 f6
    obtain ⟨zb, cb, fb⟩ := H9.box 0 rfl
    rw [hnN.out]
    rw [hnC.out]
    have H10 := (H9.set 0 rfl 7 (.int .i64 nN) (by simp)).set 0 rfl 8 (.int .i64 nC) (by simp)
    replace H9 := Lib.hid H9; replace H10 := Lib.hid H10
    go_wp2_with fail
    go_end0
    refine ⟨rfl, ?_⟩
    unfold ccV
    simp only [hcast.out]
    exact H10.out.drop 1 rfl
  · have q : decide (2 * ((xrn : Int) + 1) < a) = false := decide_eq_false hbig
    simp only [if_neg hbig] at hnN hnC

    go_wp2_with fail
    refine wp_region_near_tail 15 (by kernel_rfl) (by kernel_rfl) ?_
    intro hs
    simp only [List.take_succ_cons, List.take_zero, List.drop_succ_cons, List.drop_zero]
    repeat (go_big_quiet_step ((first | (go_at_call 63; exact Calls.near (by simp) (Z.out _)) | (go_at_call 130; exact Calls.near (by simp) (G.out _ _)))))
    refine wpQuiet_nil ?_
    clear hs
    intro w5 hb5
    have H9 := H8.out.thru hb5
    clear H8 zb cb fb z6 c6 f6
    obtain ⟨zb, cb, fb⟩ := H9.box 0 rfl
    rw [hnN.out]
    rw [hnC.out]
    have H10 := (H9.set 0 rfl 7 (.int .i64 nN) (by simp)).set 0 rfl 8 (.int .i64 nC) (by simp)
    replace H9 := Lib.hid H9; replace H10 := Lib.hid H10
    go_wp2_with fail
    go_end0
    refine ⟨rfl, ?_⟩
    unfold ccV
    simp only [hcast.out]
    exact H10.out.drop 1 rfl
end Go.Proofs.Ytpajedpkdfacoaa.Ccid
