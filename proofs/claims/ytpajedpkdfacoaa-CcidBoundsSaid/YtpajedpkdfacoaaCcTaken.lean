
/- The walks of the package ccid, whatever a control has come to: Took. -/
import Derived.Test.YtpajedpkdfacoaaCcTook
namespace Go.Proofs.Ytpajedpkdfacoaa.Ccid
set_option linter.unusedSimpArgs false
set_option linter.unusedVariables false
open Go Go.RowKit Go.Shelf Go.Proofs.Ytpajedpkdfacoaa Go.Proofs.Ytpajedpkdfacoaa.Circ
open Go.Proofs.Ytpajedpkdfacoaa.Flight (Un flightA putU putOk timeV OkU newsV newsL hearA leftU lostU newestU Inv hear_inv)
open Go.Proofs.Ytpajedpkdfacoaa.Heard (Hd heardA gotD)
open Go.Proofs.Ytpajedpkdfacoaa.Avec (Run runs findV eachL)
open Go.Proofs.Ytpajedpkdfacoaa.Ratio (fitN goodN held held_bd)
attribute [local irreducible] Calls

/-- What was heard of those under way. -/
abbrev heardU (l : List Un) (fr : Int) (R : List Run) (now : Int) : Flight.Acc := hearA (fun s => findV (eachL fr R) (ofC s)) (timeV now) l
def fullX (l : List Un) (x : Cc) : Bool := !decide ((l.length : Int) < x.w.s)
def ackedX (l : List Un) (x : Cc) (A : Flight.Acc) (now : Int) : Cc := if 0 < A.ack then cameX x A.ack A.trip (fullX l x) now else x
def tookX (l : List Un) (x : Cc) (A : Flight.Acc) (fr next now : Int) : Cc := fitX (lossX (ackedX l x A now) (lostU A.ahead).length A.mark (newestU (lostU A.ahead)) fr next)
theorem acked_fine {C : Int} {x : Cc} (h : Fine C x) (hC : 0 ≤ C) (l : List Un) (A : Flight.Acc) (now : Int) : Fine (C + 1000) (ackedX l x A now) := by
  unfold ackedX
  split
  · exact came_fine h hC _ _ _ _
  · exact ⟨h.win, h.rn, h.rc0, by have := h.rc1; omega, h.ts0, h.ts1, h.tv0, h.tv1, h.tl⟩
theorem took_fine {C : Int} {x : Cc} (h : Fine C x) (hC : 0 ≤ C) (l : List Un) (A : Flight.Acc) (fr next now : Int) : Fine (C + 1000) (tookX l x A fr next now) :=
  fit_fine (loss_fine (acked_fine h hC l A now) _ _ _ _ _)
theorem rd_still {W w : World} {S0 S1 : Nat → Prop} {b : Nat} {vs : List Value} {l' : List Asn} (k : Nat) (hk : ∀ w' l'', St w S1 w' l'' → St W S0 w' (l'' ++ l')) (hi : l'[k]? = some (cellA b vs)) (w' : World) (ho : Only w w' S1) : Rd w' (some ⟨b, 0, none⟩) vs := by
  have H := hk w' [] ⟨ho, fun _ => False, fun _ h => h, fun _ h => h.elim⟩
  obtain ⟨z, c, _⟩ := St.box k H hi
  exact .inr ⟨b, 0, rfl, z, fun j u hu => by rw [Nat.zero_add, c]; exact hu⟩
set_option maxRecDepth 100000 in
set_option maxHeartbeats 2000000 in
theorem took_st {C : Int} {W w : World} {S : Nat → Prop} {b : Nat} {hd : Hd} {l : List Un} {x : Cc} {r : List Asn} (fr next now : Int) (R : List Run) (n cap : Nat) (hn : R.length = n) (hn2 : n ≤ 1000) (ra : Option Addr)
    (hx : Fine C x) (hC0 : 0 ≤ C) (hC : C ≤ 980000) (hl : l.length ≤ 64) (hok : ∀ u ∈ l, OkU u) (hR : ∀ w' l', St W S w' (l' ++ r) → Rd w' ra (runs R)) (H : St W S w (ctlA b hd l x :: r)) :
    Calls Try.prog 51 #[.pointer (some ⟨b, 0, none⟩), .int .i64 fr, .slice ra n cap, .int .i64 next, .int .i64 now] w
      (fun e w' => e = .returned (.int .i64 (heardU l fr R now).ack) ∧ St W S w' (ctlA b hd (leftU (heardU l fr R now).ahead) (tookX l x (heardU l fr R now) fr next now) :: r)) := by
  have P1 := room_st hx.win H
  obtain ⟨fu, hfu⟩ : ∃ fu, decide ((l.length : Int) < x.w.s) = fu := ⟨_, rfl⟩
  have hfu2 : fullX l x = !fu := by unfold fullX; rw [hfu]
  rw [hfu] at P1
  have hinv := hear_inv (st := fun s => findV (eachL fr R) (ofC s)) (t := timeV now) l hok
  have PT := fun f w1 S1 h1 h2 => Flight.took_any f l (by omega) hok fr now R n cap hn hn2 ra w1 S1 h1 h2
  obtain ⟨z, hz0⟩ : ∃ z, z = tookX l x (heardU l fr R now) fr next now := ⟨_, rfl⟩
  rw [← hz0]
  have hfy := acked_fine hx hC0 l (heardU l fr R now) now
  obtain ⟨y, hy⟩ : ∃ y, y = ackedX l x (heardU l fr R now) now := ⟨_, rfl⟩
  rw [← hy] at hfy
  have hya := hy
  unfold ackedX at hya
  rw [hfu2] at hya
  obtain ⟨A, hA⟩ : ∃ A, A = heardU l fr R now := ⟨_, rfl⟩
  rw [← hA] at hya
  change Inv (heardU l fr R now) l.length at hinv
  rw [← hA] at hinv hz0 hy ⊢
  have PT2 : ∀ f w1 S1, (∀ w', Only w1 w' S1 → Rd w' ra (runs R)) → (flightA f l).holds w1 S1 → Calls Try.prog 89 #[.pointer (some ⟨f, 0, none⟩), .int .i64 fr, .slice ra n cap, .int .i64 now] w1 (Fin w1 S1 (newsV A) [flightA f (leftU A.ahead)]) := fun f w1 S1 h1 h2 => by rw [hA]; exact PT f w1 S1 h1 h2
  have ha0 := hinv.ack
  have hm0 := hinv.mark
  have hgm := fun (b p f : Nat) (W0 w0 : World) (S : Nat → Prop) (r : List Asn) (H : St W0 S w0 (cellA b (ccV p f x) :: r)) => came_st (C := C) A.ack ((lostU A.ahead).length : Int) A.mark A.trip (newestU (lostU A.ahead)) (!fu) now hx (by omega) H
  clear hA PT hinv hfu hfu2 hn hn2 hl hok hx
  replace P1 := Lib.hid P1; replace H := Lib.hid H; replace PT2 := Lib.hid PT2; replace hR := Lib.hid hR; replace hz0 := Lib.hid hz0; replace hfy := Lib.hid hfy; replace hy := Lib.hid hy; replace hgm := Lib.hid hgm
  go_enter Try.func51, Try.ntmps51
  go_wp2_with fail
  refine Calls.mono (P1.out) ?_
  rintro e w1 ⟨rfl, hb1⟩
  have z1 := Below.size hb1; try simp only [World.size_alloc, World.size_setCell, World.size_drew] at z1
  have H1 := H.out.thru hb1
  obtain ⟨p, f, H2⟩ := ctl_parts H1
  obtain ⟨z2, c2, f2⟩ := H2.box 0 rfl
  unfold ccV at c2
  obtain ⟨S1, h1, _, k1⟩ := (H2.arrN [2, 0, 1] rfl).at 0 rfl
  have P2 := PT2.out f w1 S1 (fun w' ho => hR.out w' [cellA b (ccV p f x), heardA p hd] (k1 w' [] ⟨ho, fun _ => False, fun _ h => h, fun _ h => h.elim⟩)) h1
  unfold newsV newsL at P2
  clear P1 H H1 h1 PT2
  replace P2 := Lib.hid P2; replace k1 := Lib.hid k1; replace H2 := Lib.hid H2
  go_wp2_with fail
  refine Calls.mono P2.out ?_
  rintro e w2 ⟨rfl, h2⟩
  have H3 := k1.out _ _ h2
  have H4 : St W S w2 (cellA b (ccV p f x) :: flightA f (leftU A.ahead) :: heardA p hd :: r) := H3.arrN [1, 0, 2] rfl
  have H5 := (H4.alloc [.int .i64 A.ack, .int .i64 ((lostU A.ahead).length : Int), .int .i64 A.mark, .int .i64 A.trip, .int .i64 (newestU (lostU A.ahead))] 135).arrN [1, 0] rfl
  clear P2 k1 H2 H3 z2 c2 f2 h2
  by_cases hack : 0 < A.ack
  · have q : decide (0 < A.ack) = true := decide_eq_true hack
    rw [if_pos hack] at hya
    have P3 := hgm.out b p f _ _ S _ H5
    rw [← hya] at P3
    clear hgm hya H4
    replace P3 := Lib.hid P3; replace H5 := Lib.hid H5
    go_wp2_with fail
    refine Calls.mono P3.out ?_
    rintro e w3 ⟨rfl, H6⟩
    have m1 : ¬ b = w2.heap.size := H6.ne_cells 0 1 rfl rfl (by decide)
    have m1' : ¬ w2.heap.size = b := fun e => m1 e.symm
    obtain ⟨zb, cb, fb⟩ := H6.box 0 rfl
    obtain ⟨zn, cn, fn⟩ := H6.box 1 rfl
    have H5 := H6
    clear P3 H6
    unfold ccV at cb
    have hyw := hfy.win
    have hyr := hfy.rn
    have hyl := loss_fine hfy ((lostU A.ahead).length : Int) A.mark (newestU (lostU A.ahead)) fr next
    have hz : z = fitX (lossX y ((lostU A.ahead).length : Int) A.mark (newestU (lostU A.ahead)) fr next) := by rw [hz0.out]; unfold tookX; rw [hy.out]
    have LO := fun s W => Cwnd.lost_any y.w y.w s next hyw.beg hyw W
    clear hfy hz0 hy
    obtain ⟨⟨ys, yt, yc, yk, ym⟩, yrn, yrc, yts, ytv, ytl, ytk, yfa, ysi⟩ := y
    by_cases h1 : 0 < ((lostU A.ahead).length : Int)
    · have q1 : decide (0 < ((lostU A.ahead).length : Int)) = true := decide_eq_true h1
      unfold lossX at hz hyl
      rw [if_pos h1] at hz hyl
      replace LO := LO (newestU (lostU A.ahead))
      have hvo := hyl.win
      simp only at hz LO hvo hyr
      generalize Cwnd.Win.lost ⟨ys, yt, yc, yk, ym⟩ (newestU (lostU A.ahead)) next = v at *
      have Z := fun W => Cwnd.size_any v W
      rw [hvo.beg] at Z
      have F := fun W => Ratio.fit_any yrn yrc v.s W (by omega) (by omega)
      obtain ⟨nN, hN⟩ : ∃ nN, fitN yrn v.s = nN := ⟨_, rfl⟩
      have hn0 : 0 ≤ nN := by rw [← hN]; exact (fitN_bd v.s (by omega)).1
      have hcast : ((nN.toNat : Nat) : Int) = nN := Int.toNat_of_nonneg hn0
      unfold fitX at hz
      simp only [hN] at hz F
      obtain ⟨vs, vt, vc, vk, vm⟩ := v
      simp only at Z F LO hz
      clear hN hvo hyl
      replace Z := Lib.hid Z; replace F := Lib.hid F; replace LO := Lib.hid LO; replace hz := Lib.hid hz; replace hcast := Lib.hid hcast; replace H5 := Lib.hid H5
      go_wp2_with fail
      have Hn : St W S _ [cellA w2.heap.size [.int .i64 A.ack, .int .i64 ((lostU A.ahead).length : Int), .int .i64 A.mark, .int .i64 A.trip, .int .i64 (newestU (lostU A.ahead))]] := (H5.out.arrN [1, 0] rfl).drops 1
      have hcl : ∀ (u : Cls W S [cellA w2.heap.size [.int .i64 A.ack, .int .i64 ((lostU A.ahead).length : Int), .int .i64 A.mark, .int .i64 A.trip, .int .i64 (newestU (lostU A.ahead))]]) (o : Nat), u.it.cell? ⟨w2.heap.size, o, none⟩ = [Value.int .i64 A.ack, .int .i64 ((lostU A.ahead).length : Int), .int .i64 A.mark, .int .i64 A.trip, .int .i64 (newestU (lostU A.ahead))][o]? := fun u => (u.st.box 0 rfl).cells
      haveI := St.ne Hn
      refine wp_region_madeC Hn [0, 1, 2, 3, 5, 6, 7] [true, true, true, true, false, true, true, true, false, false, false, false, false, false, false] 8 #[true, true, true, true, false, true, true, true, false, false, false, false, false, false, false] (by kernel_rfl) rfl (by kernel_rfl) (by kernel_rfl) rfl (by kernel_rfl) (by kernel_rfl) (by intro c a a' w e h; obtain ⟨t, d⟩ := a; obtain ⟨t', d'⟩ := a'; obtain rfl : d = d' := e; exact h) ?_
      simp only [pickB]
      repeat (go_big_quiet_step (fail))
      refine wpQuiet_nil ?_
      refine held_one (i := 4) (by kernel_rfl) fun K hK => ?_
      simp only [List.drop_succ_cons, List.drop_zero, List.take_succ_cons, List.take_zero]
      go_wp2_with fail
      refine hK _ _ Hn.drew ?_
      clear hK K
      refine held_one (i := 8) (by kernel_rfl) fun K hK => ?_
      simp only [List.drop_succ_cons, List.drop_zero, List.take_succ_cons, List.take_zero]
      go_wp2_with fail
      refine Calls.mono (LO.out _) ?_
      rintro e w5 ⟨rfl, hb5⟩
      have z5 := Below.size hb5; try simp only [World.size_alloc, World.size_setCell, World.size_drew] at z5
      have H6 := H5.out.drew.thru hb5
      have Hn2 : St W S _ [cellA w2.heap.size [.int .i64 A.ack, .int .i64 ((lostU A.ahead).length : Int), .int .i64 A.mark, .int .i64 A.trip, .int .i64 (newestU (lostU A.ahead))]] := (H6.arrN [1, 0] rfl).drops 1
      go_wp2_with fail
      refine hK _ _ Hn2 ?_
      clear hK K
      haveI := St.ne Hn2
      refine calmC Hn2 [9, 10, 11, 12, 13] [false, false, false, false, false, false, false, false, false, true, true, true, true, true, false] 1 6 #[true, true, true, true, true, true, true, true, true, false, false, false, false, false, false] #[true, true, true, true, true, true, true, true, true, true, true, true, true, true, false] rfl (by kernel_rfl) (by kernel_rfl) rfl (by kernel_rfl) (by kernel_rfl) (by intro c a a' w e h; obtain ⟨t, d⟩ := a; obtain ⟨t', d'⟩ := a'; obtain rfl : d = d' := e; exact h) ?_
      simp only [pickB]
      repeat (go_big_quiet_step (fail))
      refine wpQuiet_nil ?_
      refine held_one (i := 14) (by kernel_rfl) fun K hK => ?_
      simp only [List.drop_succ_cons, List.drop_zero, List.take_succ_cons, List.take_zero]
      obtain ⟨zb2, cb2, fb2⟩ := H6.box 0 rfl
      obtain ⟨zn2, cn2, fn2⟩ := H6.box 1 rfl
      have H7 := ((((H6.set 0 rfl 2 (.int .i64 vs) (by simp [ccV])).set 0 rfl 3 (.int .i64 vt) (by simp [ccV])).set 0 rfl 4 (.int .i64 vc) (by simp [ccV])).set 0 rfl 5 (.bool vk) (by simp [ccV])).set 0 rfl 6 (.int .i64 vm) (by simp [ccV])
      unfold ccV at cb2 H7
      simp only at cb2
      clear H5 H6
      replace H7 := Lib.hid H7
      have Hn3 : St W S _ [cellA w2.heap.size [.int .i64 A.ack, .int .i64 ((lostU A.ahead).length : Int), .int .i64 A.mark, .int .i64 A.trip, .int .i64 (newestU (lostU A.ahead))]] := (H7.out.arrN [1, 0] rfl).drops 1
      go_wp2_with fail
      refine hK _ _ Hn3 ?_
      clear hK K
      refine held_done (by kernel_rfl) ?_
      go_wp2_with fail
      refine wp_region_near_tail 13 (by kernel_rfl) (by kernel_rfl) ?_
      intro hs
      simp only [List.take_succ_cons, List.take_zero, List.drop_succ_cons, List.drop_zero]
      repeat (go_big_quiet_step ((first | (go_at_call 63; exact Calls.near (by simp) (Z.out _)) | (go_at_call 92; exact Calls.near (by simp) (F.out _)))))
      refine wpQuiet_nil ?_
      clear hs
      intro w6 hb6
      have H8 := H7.out.thru hb6
      obtain ⟨zb3, cb3, fb3⟩ := H8.box 0 rfl
      obtain ⟨zn3, cn3, fn3⟩ := H8.box 1 rfl
      try unfold ccV at H8
      try unfold ccV at cb3
      try simp only at H8
      try simp only at cb3
      have H9 := (H8.set 0 rfl 7 (.int .i64 nN) (by simp)).set 0 rfl 8 (.int .i64 yrc) (by simp)
      clear hb6 H8
      replace H9 := Lib.hid H9
      go_wp2_with fail
      go_ret
      refine ⟨rfl, ?_⟩
      rw [hz.out]
      refine ctl_shut (p := p) (f := f) ?_
      have H10 := (H9.out.drop 1 rfl).arrN [0, 2, 1] rfl
      unfold ccV
      simp only [hcast.out]
      exact H10
    · have q1 : decide (0 < ((lostU A.ahead).length : Int)) = false := decide_eq_false h1
      by_cases h2 : 0 < A.mark
      · have q2 : decide (0 < A.mark) = true := decide_eq_true h2
        unfold lossX at hz hyl
        rw [if_neg h1, if_pos h2] at hz hyl
        replace LO := LO fr
        have hvo := hyl.win
        simp only at hz LO hvo hyr
        generalize Cwnd.Win.lost ⟨ys, yt, yc, yk, ym⟩ fr next = v at *
        have Z := fun W => Cwnd.size_any v W
        rw [hvo.beg] at Z
        have F := fun W => Ratio.fit_any yrn yrc v.s W (by omega) (by omega)
        obtain ⟨nN, hN⟩ : ∃ nN, fitN yrn v.s = nN := ⟨_, rfl⟩
        have hn0 : 0 ≤ nN := by rw [← hN]; exact (fitN_bd v.s (by omega)).1
        have hcast : ((nN.toNat : Nat) : Int) = nN := Int.toNat_of_nonneg hn0
        unfold fitX at hz
        simp only [hN] at hz F
        obtain ⟨vs, vt, vc, vk, vm⟩ := v
        simp only at Z F LO hz
        clear hN hvo hyl
        replace Z := Lib.hid Z; replace F := Lib.hid F; replace LO := Lib.hid LO; replace hz := Lib.hid hz; replace hcast := Lib.hid hcast; replace H5 := Lib.hid H5
        go_wp2_with fail
        refine Calls.mono (LO.out _) ?_
        rintro e w5 ⟨rfl, hb5⟩
        have z5 := Below.size hb5; try simp only [World.size_alloc, World.size_setCell, World.size_drew] at z5
        have H6 := H5.out.thru hb5
        clear hb5
        obtain ⟨zb2, cb2, fb2⟩ := H6.box 0 rfl
        obtain ⟨zn2, cn2, fn2⟩ := H6.box 1 rfl
        have H7 := ((((H6.set 0 rfl 2 (.int .i64 vs) (by simp [ccV])).set 0 rfl 3 (.int .i64 vt) (by simp [ccV])).set 0 rfl 4 (.int .i64 vc) (by simp [ccV])).set 0 rfl 5 (.bool vk) (by simp [ccV])).set 0 rfl 6 (.int .i64 vm) (by simp [ccV])
        unfold ccV at cb2 H7
        simp only at cb2
        clear H5 H6
        replace H7 := Lib.hid H7
        go_wp2_with fail
        refine wp_region_near_tail 13 (by kernel_rfl) (by kernel_rfl) ?_
        intro hs
        simp only [List.take_succ_cons, List.take_zero, List.drop_succ_cons, List.drop_zero]
        repeat (go_big_quiet_step ((first | (go_at_call 63; exact Calls.near (by simp) (Z.out _)) | (go_at_call 92; exact Calls.near (by simp) (F.out _)))))
        refine wpQuiet_nil ?_
        clear hs
        intro w6 hb6
        have H8 := H7.out.thru hb6
        obtain ⟨zb3, cb3, fb3⟩ := H8.box 0 rfl
        obtain ⟨zn3, cn3, fn3⟩ := H8.box 1 rfl
        try unfold ccV at H8
        try unfold ccV at cb3
        try simp only at H8
        try simp only at cb3
        have H9 := (H8.set 0 rfl 7 (.int .i64 nN) (by simp)).set 0 rfl 8 (.int .i64 yrc) (by simp)
        clear hb6 H8
        replace H9 := Lib.hid H9
        go_wp2_with fail
        go_ret
        refine ⟨rfl, ?_⟩
        rw [hz.out]
        refine ctl_shut (p := p) (f := f) ?_
        have H10 := (H9.out.drop 1 rfl).arrN [0, 2, 1] rfl
        unfold ccV
        simp only [hcast.out]
        exact H10
      · have q2 : decide (0 < A.mark) = false := decide_eq_false h2
        unfold lossX at hz hyl
        rw [if_neg h1, if_neg h2] at hz hyl
        have hvo := hyl.win
        simp only at hz hvo hyr
        clear LO
        obtain ⟨v, hv⟩ : ∃ v : Cwnd.Win, v = ⟨ys, yt, yc, yk, ym⟩ := ⟨_, rfl⟩
        rw [← hv] at hz hvo
        have LO : True := trivial
        have Z := fun W => Cwnd.size_any v W
        rw [hvo.beg] at Z
        have F := fun W => Ratio.fit_any yrn yrc v.s W (by omega) (by omega)
        obtain ⟨nN, hN⟩ : ∃ nN, fitN yrn v.s = nN := ⟨_, rfl⟩
        have hn0 : 0 ≤ nN := by rw [← hN]; exact (fitN_bd v.s (by omega)).1
        have hcast : ((nN.toNat : Nat) : Int) = nN := Int.toNat_of_nonneg hn0
        unfold fitX at hz
        simp only [hN] at hz F
        obtain ⟨vs, vt, vc, vk, vm⟩ := v
        simp only at Z F LO hz
        clear hN hvo hyl
        replace Z := Lib.hid Z; replace F := Lib.hid F; replace LO := Lib.hid LO; replace hz := Lib.hid hz; replace hcast := Lib.hid hcast; replace H5 := Lib.hid H5
        injection hv with i1 i2 i3 i4 i5
        subst i1 i2 i3 i4 i5
        obtain ⟨zb2, cb2, fb2⟩ := H5.out.box 0 rfl
        obtain ⟨zn2, cn2, fn2⟩ := H5.out.box 1 rfl
        unfold ccV at cb2
        simp only at cb2
        go_wp2_with fail
        refine wp_region_near_tail 13 (by kernel_rfl) (by kernel_rfl) ?_
        intro hs
        simp only [List.take_succ_cons, List.take_zero, List.drop_succ_cons, List.drop_zero]
        repeat (go_big_quiet_step ((first | (go_at_call 63; exact Calls.near (by simp) (Z.out _)) | (go_at_call 92; exact Calls.near (by simp) (F.out _)))))
        refine wpQuiet_nil ?_
        clear hs
        intro w6 hb6
        have H8 := H5.out.thru hb6
        obtain ⟨zb3, cb3, fb3⟩ := H8.box 0 rfl
        obtain ⟨zn3, cn3, fn3⟩ := H8.box 1 rfl
        try unfold ccV at H8
        try unfold ccV at cb3
        try simp only at H8
        try simp only at cb3
        have H9 := (H8.set 0 rfl 7 (.int .i64 nN) (by simp)).set 0 rfl 8 (.int .i64 yrc) (by simp)
        clear hb6 H8
        replace H9 := Lib.hid H9
        go_wp2_with fail
        go_ret
        refine ⟨rfl, ?_⟩
        rw [hz.out]
        refine ctl_shut (p := p) (f := f) ?_
        have H10 := (H9.out.drop 1 rfl).arrN [0, 2, 1] rfl
        unfold ccV
        simp only [hcast.out]
        exact H10
  · have q : decide (0 < A.ack) = false := decide_eq_false hack
    rw [if_neg hack] at hya
    rw [← hya] at H5 H4
    obtain ⟨zb0, cb0, fb0⟩ := H4.box 0 rfl
    unfold ccV at cb0
    have m1 : ¬ b = w2.heap.size := H5.ne_cells 0 1 rfl rfl (by decide)
    have m1' : ¬ w2.heap.size = b := fun e => m1 e.symm
    have H6 := H5
    obtain ⟨zb, cb, fb⟩ := H6.box 0 rfl
    obtain ⟨zn, cn, fn⟩ := H6.box 1 rfl
    clear hgm hya H6 H4
    unfold ccV at cb
    have hyw := hfy.win
    have hyr := hfy.rn
    have hyl := loss_fine hfy ((lostU A.ahead).length : Int) A.mark (newestU (lostU A.ahead)) fr next
    have hz : z = fitX (lossX y ((lostU A.ahead).length : Int) A.mark (newestU (lostU A.ahead)) fr next) := by rw [hz0.out]; unfold tookX; rw [hy.out]
    have LO := fun s W => Cwnd.lost_any y.w y.w s next hyw.beg hyw W
    clear hfy hz0 hy
    obtain ⟨⟨ys, yt, yc, yk, ym⟩, yrn, yrc, yts, ytv, ytl, ytk, yfa, ysi⟩ := y
    by_cases h1 : 0 < ((lostU A.ahead).length : Int)
    · have q1 : decide (0 < ((lostU A.ahead).length : Int)) = true := decide_eq_true h1
      unfold lossX at hz hyl
      rw [if_pos h1] at hz hyl
      replace LO := LO (newestU (lostU A.ahead))
      have hvo := hyl.win
      simp only at hz LO hvo hyr
      generalize Cwnd.Win.lost ⟨ys, yt, yc, yk, ym⟩ (newestU (lostU A.ahead)) next = v at *
      have Z := fun W => Cwnd.size_any v W
      rw [hvo.beg] at Z
      have F := fun W => Ratio.fit_any yrn yrc v.s W (by omega) (by omega)
      obtain ⟨nN, hN⟩ : ∃ nN, fitN yrn v.s = nN := ⟨_, rfl⟩
      have hn0 : 0 ≤ nN := by rw [← hN]; exact (fitN_bd v.s (by omega)).1
      have hcast : ((nN.toNat : Nat) : Int) = nN := Int.toNat_of_nonneg hn0
      unfold fitX at hz
      simp only [hN] at hz F
      obtain ⟨vs, vt, vc, vk, vm⟩ := v
      simp only at Z F LO hz
      clear hN hvo hyl
      replace Z := Lib.hid Z; replace F := Lib.hid F; replace LO := Lib.hid LO; replace hz := Lib.hid hz; replace hcast := Lib.hid hcast; replace H5 := Lib.hid H5
      go_wp2_with fail
      have Hn : St W S _ [cellA w2.heap.size [.int .i64 A.ack, .int .i64 ((lostU A.ahead).length : Int), .int .i64 A.mark, .int .i64 A.trip, .int .i64 (newestU (lostU A.ahead))]] := (H5.out.arrN [1, 0] rfl).drops 1
      have hcl : ∀ (u : Cls W S [cellA w2.heap.size [.int .i64 A.ack, .int .i64 ((lostU A.ahead).length : Int), .int .i64 A.mark, .int .i64 A.trip, .int .i64 (newestU (lostU A.ahead))]]) (o : Nat), u.it.cell? ⟨w2.heap.size, o, none⟩ = [Value.int .i64 A.ack, .int .i64 ((lostU A.ahead).length : Int), .int .i64 A.mark, .int .i64 A.trip, .int .i64 (newestU (lostU A.ahead))][o]? := fun u => (u.st.box 0 rfl).cells
      haveI := St.ne Hn
      refine wp_region_madeC Hn [0, 1, 2, 3, 5, 6, 7] [true, true, true, true, false, true, true, true, false, false, false, false, false, false, false] 8 #[true, true, true, true, false, true, true, true, false, false, false, false, false, false, false] (by kernel_rfl) rfl (by kernel_rfl) (by kernel_rfl) rfl (by kernel_rfl) (by kernel_rfl) (by intro c a a' w e h; obtain ⟨t, d⟩ := a; obtain ⟨t', d'⟩ := a'; obtain rfl : d = d' := e; exact h) ?_
      simp only [pickB]
      repeat (go_big_quiet_step (fail))
      refine wpQuiet_nil ?_
      refine held_one (i := 4) (by kernel_rfl) fun K hK => ?_
      simp only [List.drop_succ_cons, List.drop_zero, List.take_succ_cons, List.take_zero]
      go_wp2_with fail
      refine hK _ _ Hn.drew ?_
      clear hK K
      refine held_one (i := 8) (by kernel_rfl) fun K hK => ?_
      simp only [List.drop_succ_cons, List.drop_zero, List.take_succ_cons, List.take_zero]
      go_wp2_with fail
      refine Calls.mono (LO.out _) ?_
      rintro e w5 ⟨rfl, hb5⟩
      have z5 := Below.size hb5; try simp only [World.size_alloc, World.size_setCell, World.size_drew] at z5
      have H6 := H5.out.drew.thru hb5
      have Hn2 : St W S _ [cellA w2.heap.size [.int .i64 A.ack, .int .i64 ((lostU A.ahead).length : Int), .int .i64 A.mark, .int .i64 A.trip, .int .i64 (newestU (lostU A.ahead))]] := (H6.arrN [1, 0] rfl).drops 1
      go_wp2_with fail
      refine hK _ _ Hn2 ?_
      clear hK K
      haveI := St.ne Hn2
      refine calmC Hn2 [9, 10, 11, 12, 13] [false, false, false, false, false, false, false, false, false, true, true, true, true, true, false] 1 6 #[true, true, true, true, true, true, true, true, true, false, false, false, false, false, false] #[true, true, true, true, true, true, true, true, true, true, true, true, true, true, false] rfl (by kernel_rfl) (by kernel_rfl) rfl (by kernel_rfl) (by kernel_rfl) (by intro c a a' w e h; obtain ⟨t, d⟩ := a; obtain ⟨t', d'⟩ := a'; obtain rfl : d = d' := e; exact h) ?_
      simp only [pickB]
      repeat (go_big_quiet_step (fail))
      refine wpQuiet_nil ?_
      refine held_one (i := 14) (by kernel_rfl) fun K hK => ?_
      simp only [List.drop_succ_cons, List.drop_zero, List.take_succ_cons, List.take_zero]
      obtain ⟨zb2, cb2, fb2⟩ := H6.box 0 rfl
      obtain ⟨zn2, cn2, fn2⟩ := H6.box 1 rfl
      have H7 := ((((H6.set 0 rfl 2 (.int .i64 vs) (by simp [ccV])).set 0 rfl 3 (.int .i64 vt) (by simp [ccV])).set 0 rfl 4 (.int .i64 vc) (by simp [ccV])).set 0 rfl 5 (.bool vk) (by simp [ccV])).set 0 rfl 6 (.int .i64 vm) (by simp [ccV])
      unfold ccV at cb2 H7
      simp only at cb2
      clear H5 H6
      replace H7 := Lib.hid H7
      have Hn3 : St W S _ [cellA w2.heap.size [.int .i64 A.ack, .int .i64 ((lostU A.ahead).length : Int), .int .i64 A.mark, .int .i64 A.trip, .int .i64 (newestU (lostU A.ahead))]] := (H7.out.arrN [1, 0] rfl).drops 1
      go_wp2_with fail
      refine hK _ _ Hn3 ?_
      clear hK K
      refine held_done (by kernel_rfl) ?_
      go_wp2_with fail
      refine wp_region_near_tail 13 (by kernel_rfl) (by kernel_rfl) ?_
      intro hs
      simp only [List.take_succ_cons, List.take_zero, List.drop_succ_cons, List.drop_zero]
      repeat (go_big_quiet_step ((first | (go_at_call 63; exact Calls.near (by simp) (Z.out _)) | (go_at_call 92; exact Calls.near (by simp) (F.out _)))))
      refine wpQuiet_nil ?_
      clear hs
      intro w6 hb6
      have H8 := H7.out.thru hb6
      obtain ⟨zb3, cb3, fb3⟩ := H8.box 0 rfl
      obtain ⟨zn3, cn3, fn3⟩ := H8.box 1 rfl
      try unfold ccV at H8
      try unfold ccV at cb3
      try simp only at H8
      try simp only at cb3
      have H9 := (H8.set 0 rfl 7 (.int .i64 nN) (by simp)).set 0 rfl 8 (.int .i64 yrc) (by simp)
      clear hb6 H8
      replace H9 := Lib.hid H9
      go_wp2_with fail
      go_ret
      refine ⟨rfl, ?_⟩
      rw [hz.out]
      refine ctl_shut (p := p) (f := f) ?_
      have H10 := (H9.out.drop 1 rfl).arrN [0, 2, 1] rfl
      unfold ccV
      simp only [hcast.out]
      exact H10
    · have q1 : decide (0 < ((lostU A.ahead).length : Int)) = false := decide_eq_false h1
      by_cases h2 : 0 < A.mark
      · have q2 : decide (0 < A.mark) = true := decide_eq_true h2
        unfold lossX at hz hyl
        rw [if_neg h1, if_pos h2] at hz hyl
        replace LO := LO fr
        have hvo := hyl.win
        simp only at hz LO hvo hyr
        generalize Cwnd.Win.lost ⟨ys, yt, yc, yk, ym⟩ fr next = v at *
        have Z := fun W => Cwnd.size_any v W
        rw [hvo.beg] at Z
        have F := fun W => Ratio.fit_any yrn yrc v.s W (by omega) (by omega)
        obtain ⟨nN, hN⟩ : ∃ nN, fitN yrn v.s = nN := ⟨_, rfl⟩
        have hn0 : 0 ≤ nN := by rw [← hN]; exact (fitN_bd v.s (by omega)).1
        have hcast : ((nN.toNat : Nat) : Int) = nN := Int.toNat_of_nonneg hn0
        unfold fitX at hz
        simp only [hN] at hz F
        obtain ⟨vs, vt, vc, vk, vm⟩ := v
        simp only at Z F LO hz
        clear hN hvo hyl
        replace Z := Lib.hid Z; replace F := Lib.hid F; replace LO := Lib.hid LO; replace hz := Lib.hid hz; replace hcast := Lib.hid hcast; replace H5 := Lib.hid H5
        go_wp2_with fail
        refine Calls.mono (LO.out _) ?_
        rintro e w5 ⟨rfl, hb5⟩
        have z5 := Below.size hb5; try simp only [World.size_alloc, World.size_setCell, World.size_drew] at z5
        have H6 := H5.out.thru hb5
        clear hb5
        obtain ⟨zb2, cb2, fb2⟩ := H6.box 0 rfl
        obtain ⟨zn2, cn2, fn2⟩ := H6.box 1 rfl
        have H7 := ((((H6.set 0 rfl 2 (.int .i64 vs) (by simp [ccV])).set 0 rfl 3 (.int .i64 vt) (by simp [ccV])).set 0 rfl 4 (.int .i64 vc) (by simp [ccV])).set 0 rfl 5 (.bool vk) (by simp [ccV])).set 0 rfl 6 (.int .i64 vm) (by simp [ccV])
        unfold ccV at cb2 H7
        simp only at cb2
        clear H5 H6
        replace H7 := Lib.hid H7
        go_wp2_with fail
        refine wp_region_near_tail 13 (by kernel_rfl) (by kernel_rfl) ?_
        intro hs
        simp only [List.take_succ_cons, List.take_zero, List.drop_succ_cons, List.drop_zero]
        repeat (go_big_quiet_step ((first | (go_at_call 63; exact Calls.near (by simp) (Z.out _)) | (go_at_call 92; exact Calls.near (by simp) (F.out _)))))
        refine wpQuiet_nil ?_
        clear hs
        intro w6 hb6
        have H8 := H7.out.thru hb6
        obtain ⟨zb3, cb3, fb3⟩ := H8.box 0 rfl
        obtain ⟨zn3, cn3, fn3⟩ := H8.box 1 rfl
        try unfold ccV at H8
        try unfold ccV at cb3
        try simp only at H8
        try simp only at cb3
        have H9 := (H8.set 0 rfl 7 (.int .i64 nN) (by simp)).set 0 rfl 8 (.int .i64 yrc) (by simp)
        clear hb6 H8
        replace H9 := Lib.hid H9
        go_wp2_with fail
        go_ret
        refine ⟨rfl, ?_⟩
        rw [hz.out]
        refine ctl_shut (p := p) (f := f) ?_
        have H10 := (H9.out.drop 1 rfl).arrN [0, 2, 1] rfl
        unfold ccV
        simp only [hcast.out]
        exact H10
      · have q2 : decide (0 < A.mark) = false := decide_eq_false h2
        unfold lossX at hz hyl
        rw [if_neg h1, if_neg h2] at hz hyl
        have hvo := hyl.win
        simp only at hz hvo hyr
        clear LO
        obtain ⟨v, hv⟩ : ∃ v : Cwnd.Win, v = ⟨ys, yt, yc, yk, ym⟩ := ⟨_, rfl⟩
        rw [← hv] at hz hvo
        have LO : True := trivial
        have Z := fun W => Cwnd.size_any v W
        rw [hvo.beg] at Z
        have F := fun W => Ratio.fit_any yrn yrc v.s W (by omega) (by omega)
        obtain ⟨nN, hN⟩ : ∃ nN, fitN yrn v.s = nN := ⟨_, rfl⟩
        have hn0 : 0 ≤ nN := by rw [← hN]; exact (fitN_bd v.s (by omega)).1
        have hcast : ((nN.toNat : Nat) : Int) = nN := Int.toNat_of_nonneg hn0
        unfold fitX at hz
        simp only [hN] at hz F
        obtain ⟨vs, vt, vc, vk, vm⟩ := v
        simp only at Z F LO hz
        clear hN hvo hyl
        replace Z := Lib.hid Z; replace F := Lib.hid F; replace LO := Lib.hid LO; replace hz := Lib.hid hz; replace hcast := Lib.hid hcast; replace H5 := Lib.hid H5
        injection hv with i1 i2 i3 i4 i5
        subst i1 i2 i3 i4 i5
        obtain ⟨zb2, cb2, fb2⟩ := H5.out.box 0 rfl
        obtain ⟨zn2, cn2, fn2⟩ := H5.out.box 1 rfl
        unfold ccV at cb2
        simp only at cb2
        go_wp2_with fail
        refine wp_region_near_tail 13 (by kernel_rfl) (by kernel_rfl) ?_
        intro hs
        simp only [List.take_succ_cons, List.take_zero, List.drop_succ_cons, List.drop_zero]
        repeat (go_big_quiet_step ((first | (go_at_call 63; exact Calls.near (by simp) (Z.out _)) | (go_at_call 92; exact Calls.near (by simp) (F.out _)))))
        refine wpQuiet_nil ?_
        clear hs
        intro w6 hb6
        have H8 := H5.out.thru hb6
        obtain ⟨zb3, cb3, fb3⟩ := H8.box 0 rfl
        obtain ⟨zn3, cn3, fn3⟩ := H8.box 1 rfl
        try unfold ccV at H8
        try unfold ccV at cb3
        try simp only at H8
        try simp only at cb3
        have H9 := (H8.set 0 rfl 7 (.int .i64 nN) (by simp)).set 0 rfl 8 (.int .i64 yrc) (by simp)
        clear hb6 H8
        replace H9 := Lib.hid H9
        go_wp2_with fail
        go_ret
        refine ⟨rfl, ?_⟩
        rw [hz.out]
        refine ctl_shut (p := p) (f := f) ?_
        have H10 := (H9.out.drop 1 rfl).arrN [0, 2, 1] rfl
        unfold ccV
        simp only [hcast.out]
        exact H10
end Go.Proofs.Ytpajedpkdfacoaa.Ccid
