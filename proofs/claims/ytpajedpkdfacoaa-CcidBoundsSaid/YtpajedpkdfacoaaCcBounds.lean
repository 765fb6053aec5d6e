/- The walk of the statement CcidBounds: whatever comes and goes, at most 16 packets are under way; and none is behind 64 ticks. -/
import Derived.Test.YtpajedpkdfacoaaCcStep
import Derived.Test.YtpajedpkdfacoaaFits
namespace Go.Proofs.Ytpajedpkdfacoaa.Ccid
set_option linter.unusedSimpArgs false
set_option linter.unusedVariables false
open Go Go.RowKit Go.Shelf Go.Proofs.Ytpajedpkdfacoaa Go.Proofs.Ytpajedpkdfacoaa.Circ
open Go.Proofs.Ytpajedpkdfacoaa.Flight (Un flightA timeV OkU)
open Go.Proofs.Ytpajedpkdfacoaa.Heard (Hd heardA gotD)
open Go.Proofs.Ytpajedpkdfacoaa.Avec (Run runs)
open Go.Proofs.Ytpajedpkdfacoaa.CcRef (refC rnew_any)
attribute [local irreducible] Calls

theorem fits_bool {w : World} {cs : List Value} (h : Fits w .bool cs) : ∃ b, cs = [.bool b] := h
structure OpC where
  kind : Int
  seq : Int
  next : Int
  now : Int
  dt : Bool
  ra : Option Addr
  m : Nat
  cap : Nat
  R : List Run
def encO (o : OpC) : List Value := opV o.kind o.seq o.next o.now o.dt o.ra o.m o.cap
theorem encO_len (o : OpC) : (encO o).length = 6 := rfl
def goodO (w : World) (o : OpC) : Prop := isI64 o.now ∧ o.m ≤ maxLen ∧ o.R.length = o.m ∧ Rd w o.ra (runs o.R)
theorem ops_in {w : World} {a : Option Addr} {len cap : Nat} (h : Fits w (.slice 6 (.cons 1 (.int .i64) (.cons 1 (.int .i64) (.cons 1 (.int .i64) (.cons 1 (.int .i64) (.cons 1 .bool (.cons 1 (.slice 2 (.cons 1 (.int .i64) (.cons 1 (.int .i64) .nil))) .nil))))))) [.slice a len cap]) :
    len ≤ maxLen ∧ (a = none → len = 0) ∧ ∃ l : List OpC, l.length = len ∧ (∀ x ∈ l, goodO w x) ∧ Rd w a (l.flatMap encO) :=
  rows_in encO (by omega) encO_len (good := goodO w) (fun cs hf hlen => by
    obtain ⟨c0, t0, rfl, f0, r0⟩ := fits_cons1 hf
    obtain ⟨c1, t1, rfl, f1, r1⟩ := fits_cons1 r0
    obtain ⟨c2, t2, rfl, f2, r2⟩ := fits_cons1 r1
    obtain ⟨c3, t3, rfl, f3, r3⟩ := fits_cons1 r2
    obtain ⟨c4, t4, rfl, f4, r4⟩ := fits_cons1 r3
    obtain ⟨c5, t5, rfl, f5, r5⟩ := fits_cons1 r4
    obtain ⟨kind, rfl, _⟩ := fits_int f0
    obtain ⟨seq, rfl, _⟩ := fits_int f1
    obtain ⟨next, rfl, _⟩ := fits_int f2
    obtain ⟨now, rfl, wn⟩ := fits_int f3
    obtain ⟨data, ed⟩ := fits_bool f4
    injection ed with ed _
    subst ed
    obtain rfl : t5 = [] := r5
    obtain ⟨a, n, cap, rfl⟩ : ∃ a n cap, c5 = .slice a n cap := by
      have f2 := f5
      rcases f2 with h | ⟨x, l, c, h, _⟩
      · simp at h; exact ⟨_, _, _, h⟩
      · simp at h; exact ⟨_, _, _, h⟩
    obtain ⟨hn, _, R, hl, _, hR⟩ := Avec.runs_in f5
    exact ⟨⟨kind, seq, next, now, data, a, n, cap, R⟩, rfl, bounds_i64 wn, hn, hl, hR⟩) h
theorem ops_at {w : World} {a : Option Addr} {l : List OpC} (h : Rd w a (l.flatMap encO)) {n : Nat} (hn : l.length = n) (h0 : 0 < n) :
    ∃ b off, a = some ⟨b, off, none⟩ ∧ b < w.heap.size ∧ ∀ i (hi : i < l.length), w.cell? ⟨b, off + i * 6, none⟩ = some (.int .i64 l[i].kind) ∧ w.cell? ⟨b, off + i * 6 + 1, none⟩ = some (.int .i64 l[i].seq) ∧ w.cell? ⟨b, off + i * 6 + 2, none⟩ = some (.int .i64 l[i].next) ∧ w.cell? ⟨b, off + i * 6 + 3, none⟩ = some (.int .i64 l[i].now) ∧ w.cell? ⟨b, off + i * 6 + 4, none⟩ = some (.bool l[i].dt) ∧ w.cell? ⟨b, off + i * 6 + 5, none⟩ = some (.slice l[i].ra l[i].m l[i].cap) := by
  obtain ⟨b, off, e, hb, hc⟩ := Rd.rows encO_len (by omega) h hn h0
  exact ⟨b, off, e, hb, fun i hi => ⟨hc i hi 0 _ rfl, hc i hi 1 _ rfl, hc i hi 2 _ rfl, hc i hi 3 _ rfl, hc i hi 4 _ rfl, hc i hi 5 _ rfl⟩⟩
def bigC (l : List OpC) : Bool := decide (120 < l.length) || l.any fun x => decide (10 < x.m)
theorem big_no {l : List OpC} (h : bigC l = false) : l.length ≤ 120 ∧ ∀ x ∈ l, x.m ≤ 10 := by
  unfold bigC at h
  simp only [Bool.or_eq_false_iff, decide_eq_false_iff_not, List.any_eq_false] at h
  exact ⟨by omega, fun o ho => by have := h.2 o ho; simp at this; omega⟩
set_option maxRecDepth 100000 in
set_option maxHeartbeats 400000 in
theorem great_any (L : List OpC) (n : Nat) (hl : L.length = n) (hn : n ≤ maxLen) (w0 : World) (hgood : ∀ o ∈ L, goodO w0 o) (a : Option Addr) (cap : Nat) (w : World) (h : Rd w a (L.flatMap encO)) :
    Calls Try.prog 21 #[.slice a n cap] w (Ret w (.bool (bigC L))) := by
  unfold maxLen at hn
  replace h := Lib.hid h; replace hl := Lib.hid hl; replace hgood := Lib.hid hgood
  go_enter Try.func21, Try.ntmps21
  go_wp2_with fail
  go_loopg [3] n (fun g i wr => ∃ j : Nat, j ≤ n ∧ g = n - j ∧ i = .int .i64 j ∧ j ≤ 120 ∧ Below w.heap.size w wr ∧ Hid (∀ i (hi : i < L.length), i < j → L[i].m ≤ 10))
  case atStart => exact ⟨0, by omega, by omega, rfl, by omega, (by repeat (first | with_reducible exact Below.refl _ _ | (with_reducible refine Below.al ?_) | (with_reducible refine Below.drew ?_) | (with_reducible refine Below.set ?_ (by first | (simp; done) | omega | (simp; omega))) | (with_reducible refine Below.thru ?_ (by assumption)) | (with_reducible refine Below.chg ?_ (by assumption) (by first | (simp; done) | omega | (simp; omega))))), fun i _ h => by omega⟩
  case round =>
    obtain ⟨j, hj, hg, rfl, h4, hbw, hno⟩ := hrel
    by_cases hlt : j < n
    · have hjl : j < L.length := by have := hl.out; omega
      obtain ⟨b, off, rfl, hb, hc⟩ := ops_at (h.out.below hbw) hl.out (by omega)
      obtain ⟨_, _, _, _, _, e5⟩ := hc j hjl
      have hs := (hgood.out L[j] (List.getElem_mem hjl)).2.1
      unfold maxLen at hs
      have hbig : 10 < L[j].m → bigC L = true := fun h => by
        unfold bigC
        rw [Bool.or_eq_true]
        exact .inr (List.any_eq_true.2 ⟨L[j], List.getElem_mem hjl, decide_eq_true h⟩)
      have hbig2 : j = 120 → bigC L = true := fun h => by
        unfold bigC
        rw [decide_eq_true (show 120 < L.length by omega)]
        rfl
      have hnx : L[j].m ≤ 10 → ∀ i (hi : i < L.length), i < j + 1 → L[i].m ≤ 10 := fun h i hi h1 => by
        by_cases e : i = j
        · subst e; exact h
        · exact hno.out i hi (by omega)
      clear hc hno
      generalize L[j] = y at *
      obtain ⟨k0, k1, k2, k3, k4, k5, v, k7, k8⟩ := y
      simp only at e5 hs hbig hnx
      by_cases h60 : j = 120
      · have q : decide ((120 : Int) ≤ (j : Int)) = true := decide_eq_true (by omega)
        replace hbig2 := Lib.hid (hbig2 h60)
        clear hbig hnx h60
        go_wp2_with fail
        go_ret
        exact Ret.mk (by rw [hbig2.out]; rfl) (by repeat (first | with_reducible exact Below.refl _ _ | (with_reducible refine Below.al ?_) | (with_reducible refine Below.drew ?_) | (with_reducible refine Below.set ?_ (by first | (simp; done) | omega | (simp; omega))) | (with_reducible refine Below.thru ?_ (by assumption)) | (with_reducible refine Below.chg ?_ (by assumption) (by first | (simp; done) | omega | (simp; omega)))))
      · have q : decide ((120 : Int) ≤ (j : Int)) = false := decide_eq_false (by omega)
        by_cases hv : 10 < v
        · have q2 : decide ((10 : Int) < (v : Int)) = true := decide_eq_true (by omega)
          replace hbig := Lib.hid (hbig hv)
          clear hbig2 hnx h60
          go_wp2_with fail
          go_ret
          exact Ret.mk (by rw [hbig.out]; rfl) (by repeat (first | with_reducible exact Below.refl _ _ | (with_reducible refine Below.al ?_) | (with_reducible refine Below.drew ?_) | (with_reducible refine Below.set ?_ (by first | (simp; done) | omega | (simp; omega))) | (with_reducible refine Below.thru ?_ (by assumption)) | (with_reducible refine Below.chg ?_ (by assumption) (by first | (simp; done) | omega | (simp; omega)))))
        · have q2 : decide ((10 : Int) < (v : Int)) = false := decide_eq_false (by omega)
          replace hnx := Lib.hid (hnx (by omega))
          clear hbig hbig2
          go_wp2_with fail
          go_roundg (n - (j + 1))
          case measure => omega
          case rel => exact ⟨j + 1, by omega, rfl, by go_num, by omega, (by repeat (first | with_reducible exact Below.refl _ _ | (with_reducible refine Below.al ?_) | (with_reducible refine Below.drew ?_) | (with_reducible refine Below.set ?_ (by first | (simp; done) | omega | (simp; omega))) | (with_reducible refine Below.thru ?_ (by assumption)) | (with_reducible refine Below.chg ?_ (by assumption) (by first | (simp; done) | omega | (simp; omega))))), hnx⟩
    · obtain rfl : j = n := by omega
      have hb : bigC L = false := by
        unfold bigC
        rw [Bool.or_eq_false_iff]
        refine ⟨decide_eq_false (by have := hl.out; omega), ?_⟩
        rw [List.any_eq_false]
        intro x hx
        obtain ⟨i, hi, rfl⟩ := List.getElem_of_mem hx
        have := hno.out i hi (by have := hl.out; omega)
        simp
        omega
      replace hb := Lib.hid hb
      go_wp2_with fail
      go_ret
      exact Ret.mk (by rw [hb.out]; rfl) (by repeat (first | with_reducible exact Below.refl _ _ | (with_reducible refine Below.al ?_) | (with_reducible refine Below.drew ?_) | (with_reducible refine Below.set ?_ (by first | (simp; done) | omega | (simp; omega))) | (with_reducible refine Below.thru ?_ (by assumption)) | (with_reducible refine Below.chg ?_ (by assumption) (by first | (simp; done) | omega | (simp; omega)))))
theorem and_three (n : Int) : bits .and .i64 n 3 = n % 4 := by
  have h127 : (BitVec.ofInt 64 3).toNat = 2 ^ 2 - 1 := by decide
  have key : (BitVec.ofInt 64 n &&& BitVec.ofInt 64 3).toNat = (n % ((2 ^ 64 : Nat) : Int)).toNat % 2 ^ 2 := by
    rw [BitVec.toNat_and, BitVec.toNat_ofInt, h127, Nat.and_two_pow_sub_one_eq_mod]
  show IntKind.i64.wrap ((BitVec.ofInt 64 n &&& BitVec.ofInt 64 3).toNat : Nat) = n % 4
  rw [key, IntKind.wrap_i64]
  omega
attribute [local go_sem] and_three
set_option maxRecDepth 100000 in
set_option maxHeartbeats 4000000 in
theorem bounds_walk (first : Int) (w0 : (Lit.int .i64 first).wf = true) (a1 : Option Addr) (n cap1 : Nat) (w : World) (h1 : Fits w (.slice 6 (.cons 1 (.int .i64) (.cons 1 (.int .i64) (.cons 1 (.int .i64) (.cons 1 (.int .i64) (.cons 1 .bool (.cons 1 (.slice 2 (.cons 1 (.int .i64) (.cons 1 (.int .i64) .nil))) .nil))))))) [.slice a1 n cap1]) :
    Calls Try.prog 5 #[.int .i64 first, .slice a1 n cap1] w (Ret w (.bool true)) := by
  obtain ⟨hn, _, L, hl, hgood, hL⟩ := ops_in h1
  clear w0 h1
  have PG := fun W hb => great_any L n hl hn w hgood a1 cap1 W (hL.below (w' := W) hb)
  cases hq : bigC L with
  | true =>
    simp only [hq] at PG
    clear hgood hL hq
    replace PG := Lib.hid PG; replace hl := Lib.hid hl
    go_enter Try.func5, Try.ntmps5
    go_wp2_with fail
    refine Calls.mono (works_law _) ?_
    rintro e w1 ⟨rfl, hb1⟩
    have z1 := Below.size hb1; try simp only [World.size_alloc, World.size_setCell, World.size_drew] at z1
    go_wp2_with fail
    refine Calls.mono (PG.out _ hb1) ?_
    rintro e w2 ⟨rfl, hb2⟩
    have z2 := Below.size hb2; try simp only [World.size_alloc, World.size_setCell, World.size_drew] at z2
    go_wp2_with fail
    go_ret
    exact Ret.mk rfl (by repeat (first | with_reducible exact Below.refl _ _ | (with_reducible refine Below.al ?_) | (with_reducible refine Below.drew ?_) | (with_reducible refine Below.set ?_ (by first | (simp; done) | omega | (simp; omega))) | (with_reducible refine Below.thru ?_ (by assumption)) | (with_reducible refine Below.chg ?_ (by assumption) (by first | (simp; done) | omega | (simp; omega)))))
  | false =>
    simp only [hq] at PG
    obtain ⟨hn60, hs10⟩ := big_no hq
    have hn2 : n ≤ 120 := by omega
    clear hq hn
    replace PG := Lib.hid PG; replace hl := Lib.hid hl; replace hgood := Lib.hid hgood; replace hL := Lib.hid hL; replace hs10 := Lib.hid hs10
    go_enter Try.func5, Try.ntmps5
    go_wp2_with fail
    refine Calls.mono (works_law _) ?_
    rintro e w1 ⟨rfl, hb1⟩
    have z1 := Below.size hb1; try simp only [World.size_alloc, World.size_setCell, World.size_drew] at z1
    go_wp2_with fail
    refine Calls.mono (PG.out _ hb1) ?_
    rintro e w2 ⟨rfl, hb2⟩
    have z2 := Below.size hb2; try simp only [World.size_alloc, World.size_setCell, World.size_drew] at z2
    have H0 := ((St.zero w).thru hb1).thru hb2
    clear PG
    replace H0 := Lib.hid H0
    go_wp2_with fail
    refine Calls.mono (new_any first _) ?_
    rintro e w3 ⟨a, rfl, HA⟩
    have H1 : St w none0 w3 [ctlA a ⟨ofC first, [true], 0, 0⟩ [] x0] := H0.out.add HA
    have hG0 := good_new first
    clear H0 HA
    replace H1 := Lib.hid H1; replace hG0 := Lib.hid hG0
    go_wp2_with fail
    go_loopg [6, 7, 8] n (fun g v6 v7 _ wr => ∃ (j : Nat) (now : Int) (hd : Hd) (l : List Un) (x : Cc), j ≤ n ∧ Hid (g = n - j) ∧ v7 = .int .i64 j ∧ v6 = .int .i64 now ∧ 0 ≤ now ∧ now ≤ 3 * j ∧ Hid (Good j now hd l x) ∧ Hid (St w none0 wr [ctlA a hd l x]))
    case atStart => exact ⟨0, 0, _, _, _, by omega, Lib.hid rfl, rfl, rfl, by omega, by omega, hG0, H1⟩
    case round =>
      obtain ⟨j, now, hd, l, x, hj, hg, rfl, rfl, hn0, hn3, hG, hst⟩ := hrel
      clear H1 hG0
      by_cases hlt : j < n
      · have hjl : j < L.length := by have := hl.out; omega
        obtain ⟨b, off, rfl, hb, hc⟩ := ops_at (hL.out.below hst.out.below) hl.out (by omega)
        obtain ⟨e0, e1, e2, e3, e4, e5⟩ := hc j hjl
        obtain ⟨g1, g2, g3, g4⟩ := hgood.out L[j] (List.getElem_mem hjl)
        have g5 := hs10.out L[j] (List.getElem_mem hjl)
        clear hc
        generalize L[j] = o at *
        obtain ⟨kind, seq, next, nw, dt, ra, m, cap, R⟩ := o
        simp only at e0 e1 e2 e3 e4 e5 g1 g3 g4 g5
        have hlx : now ≤ now + nw % 4 ∧ now + nw % 4 ≤ 3 * ((j : Int) + 1) := by omega
        have hm3 : 0 ≤ nw % 4 ∧ nw % 4 ≤ 3 := by omega
        have H3 := hst.out.alloc [.int .i64 kind, .int .i64 seq, .int .i64 next, .int .i64 (now + nw % 4), .bool dt, .slice ra m cap] 52
        have PS := fun (b : Nat) (w' : World) (H : St w none0 w' (ctlA a hd l x :: refC b (ofC first) :: [cellA wr.heap.size [.int .i64 kind, .int .i64 seq, .int .i64 next, .int .i64 (now + nw % 4), .bool dt, .slice ra m cap]])) => step_st kind seq next (now + nw % 4) dt ra m cap R first g3 (by omega) (by omega) hG.out (by omega) hlx.1 (by omega) (fun w' l' h => g4.below h.below) H
        unfold opV at PS
        clear hG g3 g4
        replace H3 := Lib.hid H3; replace hlx := Lib.hid hlx; replace PS := Lib.hid PS
        go_wp2_with fail
        have Hn : St w none0 _ [cellA wr.heap.size [.int .i64 kind, .int .i64 seq, .int .i64 next, .int .i64 (now + nw % 4), .bool dt, .slice ra m cap]] := H3.out.drops 1
        have hcl : ∀ (u : Cls w none0 [cellA wr.heap.size [.int .i64 kind, .int .i64 seq, .int .i64 next, .int .i64 (now + nw % 4), .bool dt, .slice ra m cap]]) (o : Nat), u.it.cell? ⟨wr.heap.size, o, none⟩ = [Value.int .i64 kind, .int .i64 seq, .int .i64 next, .int .i64 (now + nw % 4), .bool dt, .slice ra m cap][o]? := fun u => (u.st.box 0 rfl).cells
        haveI := St.ne Hn
        refine wp_region_madeC Hn [0, 1, 3] [true, true, false, true, false] 2 #[true, true, false, true, false] (by kernel_rfl) rfl (by kernel_rfl) (by kernel_rfl) rfl (by kernel_rfl) (by kernel_rfl) (by intro c a a' w e h; obtain ⟨t, d⟩ := a; obtain ⟨t', d'⟩ := a'; obtain rfl : d = d' := e; exact h) ?_
        simp only [pickB]
        repeat (go_big_quiet_step (fail))
        refine wpQuiet_nil ?_
        refine held_one (i := 2) (by kernel_rfl) fun K hK => ?_
        simp only [List.drop_succ_cons, List.drop_zero, List.take_succ_cons, List.take_zero]
        go_wp2_with fail
        refine Calls.mono (rnew_any first _) ?_
        rintro e w5 ⟨b2, rfl, HR⟩
        have H4 := (H3.out.drew.add HR).arrN [2, 0, 1] rfl
        have Hn2 : St w none0 _ [cellA wr.heap.size [.int .i64 kind, .int .i64 seq, .int .i64 next, .int .i64 (now + nw % 4), .bool dt, .slice ra m cap]] := (H4.arrN [2, 0, 1] rfl).drops 1
        go_wp2_with fail
        refine hK _ _ Hn2 ?_
        clear hK K
        refine held_one (i := 4) (by kernel_rfl) fun K hK => ?_
        simp only [List.drop_succ_cons, List.drop_zero, List.take_succ_cons, List.take_zero]
        have P4 := PS.out b2 _ H4
        clear PS H3 HR
        replace P4 := Lib.hid P4
        go_wp2_with fail
        refine Calls.mono P4.out ?_
        rintro e w6 ⟨v, hd2, l2, x2, rfl, hG2, H6⟩
        have Hn3 : St w none0 _ [cellA wr.heap.size [.int .i64 kind, .int .i64 seq, .int .i64 next, .int .i64 (now + nw % 4), .bool dt, .slice ra m cap]] := (H6.arrN [1, 0] rfl).drops 1
        clear P4 H4
        go_wp2_with fail
        refine hK _ _ Hn3 ?_
        clear hK K
        refine held_done (by kernel_rfl) ?_
        have HC := H6.drops 1
        have PP := fun w' hb => pipe_st (HC.thru (w' := w') hb)
        have PW := fun w' hb => window_st hG2.fine.win (HC.thru (w' := w') hb)
        have PR := fun w' hb => ratio_st hG2.fine.rn (HC.thru (w' := w') hb)
        have b1 := hG2.len
        obtain ⟨b2', b3, _⟩ := hG2.fine.win
        have b4 := hG2.fine.rn
        clear Hn Hn2 Hn3 H6
        replace PP := Lib.hid PP; replace PW := Lib.hid PW; replace PR := Lib.hid PR; replace HC := Lib.hid HC; replace hG2 := Lib.hid hG2
        go_wp2_with fail
        refine Calls.mono (PP.out _ (Below.refl _ _)) ?_
        rintro e w7 ⟨rfl, hb7⟩
        have z7 := Below.size hb7; try simp only [World.size_alloc, World.size_setCell, World.size_drew] at z7
        go_wp2_with fail
        refine Calls.mono (PW.out _ hb7) ?_
        rintro e w8 ⟨rfl, hb8⟩
        have z8 := Below.size hb8; try simp only [World.size_alloc, World.size_setCell, World.size_drew] at z8
        have hb78 := hb7.trans (hb8.mono hb7.size)
        go_wp2_with fail
        refine Calls.mono (PW.out _ hb78) ?_
        rintro e w9 ⟨rfl, hb9⟩
        have z9 := Below.size hb9; try simp only [World.size_alloc, World.size_setCell, World.size_drew] at z9
        have hb79 := hb78.trans (hb9.mono hb78.size)
        go_wp2_with fail
        refine Calls.mono (PR.out _ hb79) ?_
        rintro e w10 ⟨rfl, hb10⟩
        have z10 := Below.size hb10; try simp only [World.size_alloc, World.size_setCell, World.size_drew] at z10
        have hb710 := hb79.trans (hb10.mono hb79.size)
        go_wp2_with fail
        refine Calls.mono (PR.out _ hb710) ?_
        rintro e w11 ⟨rfl, hb11⟩
        have z11 := Below.size hb11; try simp only [World.size_alloc, World.size_setCell, World.size_drew] at z11
        have hb711 := hb710.trans (hb11.mono hb710.size)
        have HE := HC.out.thru hb711
        clear PP PW PR HC
        replace HE := Lib.hid HE
        go_wp2_with fail
        go_roundg (n - (j + 1))
        case measure => have := hg.out; omega
        case rel => exact ⟨j + 1, now + nw % 4, hd2, l2, x2, by omega, Lib.hid rfl, by go_num, rfl, by omega, by have := hlx.out; omega, hG2, HE⟩
      · obtain rfl : j = n := by omega
        have hsn : x.since ≤ now := hG.out.s1
        replace hsn := Lib.hid hsn
        go_wp2_with fail
        go_loopg [6, 9] 64 (fun g v6 v9 wr => ∃ (i : Nat) (hd : Hd) (l : List Un) (x : Cc), i ≤ 64 ∧ Hid (g = 64 - i) ∧ v9 = .int .i64 i ∧ v6 = .int .i64 (now + i) ∧ Hid (Good (j + i) (now + i) hd l x) ∧ Hid (l = [] ∨ (x.since ≤ now ∧ i < 64)) ∧ Hid (St w none0 wr [ctlA a hd l x]))
        case atStart => exact ⟨0, hd, l, x, by omega, Lib.hid rfl, rfl, by simp, by simpa using hG, Lib.hid (.inr ⟨hsn.out, by omega⟩), hst⟩
        case round =>
          clear hst hG hsn
          obtain ⟨i, hd, l, x, hi, hg, rfl, rfl, hG, hor, hst⟩ := hrel
          by_cases hlt : i < 64
          · have q : decide ((i : Int) < 64) = true := decide_eq_true (by omega)
            have P := tick_st 0 (now + i + 1) hG.out.fine ⟨hG.out.f0, by have := hG.out.f1; omega⟩ ⟨hG.out.s0, by have := hG.out.s1; omega⟩ (by have := hG.out.len; omega) ⟨hG.out.k0, by have := hG.out.k1; omega⟩ hst.out
            have hG2 := good_tick hG.out (t' := now + i + 1) (by omega) (by omega) (by omega) 0
            have hor2 : tickL l x (now + i + 1) = [] ∨ ((tickX l x 0 (now + i + 1)).since ≤ now ∧ i + 1 < 64) := by
              rcases hor.out with h | ⟨h1, h2⟩
              · subst h
                exact .inl (tick_nil x 0 _).1
              · cases hb : lateB l x (now + i + 1) with
                | true => exact .inl (tick_gone 0 hb)
                | false =>
                  obtain ⟨k1, k2⟩ := tick_keep 0 hb
                  by_cases h3 : i + 1 < 64
                  · rw [k1]
                    exact .inr ⟨h1, h3⟩
                  · exact .inl (tick_none (by omega) (by omega) (by omega))
            clear hst hG hor
            replace P := Lib.hid P; replace hG2 := Lib.hid hG2; replace hor2 := Lib.hid hor2
            go_wp2_with fail
            refine Calls.mono P.out ?_
            rintro e w5 ⟨rfl, H5⟩
            clear P
            replace H5 := Lib.hid H5
            go_wp2_with fail
            go_roundg (64 - (i + 1))
            case measure => have := hg.out; omega
            case rel => exact ⟨i + 1, _, _, _, by omega, Lib.hid rfl, by go_num, by rw [show now + ((i + 1 : Nat) : Int) = now + i + 1 by omega], by rw [show now + ((i + 1 : Nat) : Int) = now + i + 1 by omega]; exact hG2, hor2, H5⟩
          · obtain rfl : i = 64 := by omega
            have hl0 : l = [] := by
              rcases hor.out with h | ⟨_, h⟩
              · exact h
              · omega
            subst hl0
            have q : decide ((64 : Int) < 64) = false := rfl
            have PP := fun w' hb => pipe_st (hst.out.thru (w' := w') hb)
            have PR := fun w' hb => room_st hG.out.fine.win (hst.out.thru (w' := w') hb)
            have b1 := hG.out.fine.win.1
            have q2 : decide (((([] : List Un).length : Nat) : Int) < x.w.s) = true := decide_eq_true (by simp only [List.length_nil]; omega)
            rw [q2] at PR
            simp only [List.length_nil] at PP
            clear hor q2
            replace PP := Lib.hid PP; replace PR := Lib.hid PR
            go_wp2_with fail
            refine Calls.mono (PP.out _ (Below.refl _ _)) ?_
            rintro e w7 ⟨rfl, hb7⟩
            have z7 := Below.size hb7; try simp only [World.size_alloc, World.size_setCell, World.size_drew] at z7
            go_wp2_with fail
            refine Calls.mono (PR.out _ hb7) ?_
            rintro e w8 ⟨rfl, hb8⟩
            have z8 := Below.size hb8; try simp only [World.size_alloc, World.size_setCell, World.size_drew] at z8
            have HE := (hst.out.thru hb7).thru hb8
            go_wp2_with fail
            go_ret
            exact HE.ret rfl
end Go.Proofs.Ytpajedpkdfacoaa.Ccid
