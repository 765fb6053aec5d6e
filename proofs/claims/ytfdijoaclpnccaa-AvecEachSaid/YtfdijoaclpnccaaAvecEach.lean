/- The walks that the statement AvecEach wants: what is told, one by one, to a function; the answer At. -/
import Derived.Test.YtfdijoaclpnccaaAvecLaw
namespace Go.Proofs.Ytfdijoaclpnccaa.Avec
set_option linter.unusedSimpArgs false
set_option linter.unusedVariables false
open Go Go.RowKit Go.Proofs.Ytfdijoaclpnccaa Go.Proofs.Ytfdijoaclpnccaa.Circ
attribute [local irreducible] Calls

theorem ofC_sub (f j : Int) : ofC (ofC f - j) = ofC (f - j) := by unfold ofC; omega
/-- The function that is told: of 'want', t told; from f on; at most 'most'. -/
def tellA (bo bn bw bf bm : Nat) (f most : Int) (L : List Int) (t : Nat) : Asn :=
  exA fun v => sepA [cellA bo [.bool true], cellA bn [.int .i64 t], cellA bw [v], rowA 1 v L.length (i64s L), cellA bf [.int .i64 f], cellA bm [.int .i64 most]]
theorem tell_parts {W w : World} {S : Nat → Prop} {bo bn bw bf bm : Nat} {f most : Int} {L : List Int} {t : Nat} {r : List Asn} (h : St W S w (tellA bo bn bw bf bm f most L t :: r)) :
    ∃ a cap, St W S w (cellA bo [.bool true] :: cellA bn [.int .i64 t] :: cellA bw [.slice a L.length cap] :: rowA 1 (.slice a L.length cap) L.length (i64s L) :: cellA bf [.int .i64 f] :: cellA bm [.int .i64 most] :: r) := by
  obtain ⟨v, h1⟩ := St.unex 0 h rfl
  have h2 : St W S w (cellA bo [.bool true] :: cellA bn [.int .i64 t] :: cellA bw [v] :: rowA 1 v L.length (i64s L) :: cellA bf [.int .i64 f] :: cellA bm [.int .i64 most] :: r) := St.unsep 0 h1 rfl
  obtain ⟨a, cap, rfl, _⟩ := St.slice (by omega) 3 h2 rfl
  exact ⟨a, cap, h2⟩
theorem tell_shut {W w : World} {S : Nat → Prop} {bo bn bw bf bm : Nat} {f most : Int} {L : List Int} {t : Nat} {v : Value} {r : List Asn}
    (h : St W S w (cellA bo [.bool true] :: cellA bn [.int .i64 t] :: cellA bw [v] :: rowA 1 v L.length (i64s L) :: cellA bf [.int .i64 f] :: cellA bm [.int .i64 most] :: r)) : St W S w (tellA bo bn bw bf bm f most L t :: r) :=
  St.ex (fun v => sepA [cellA bo [.bool true], cellA bn [.int .i64 t], cellA bw [v], rowA 1 v L.length (i64s L), cellA bf [.int .i64 f], cellA bm [.int .i64 most]]) v (St.join [_, _, _, _, _, _] r h)
set_option maxRecDepth 100000 in
set_option maxHeartbeats 400000 in
theorem tell_any (bo bn bw bf bm : Nat) (f most : Int) (L : List Int) (t : Nat) (s : Int) (w : World) (S : Nat → Prop) (h : (tellA bo bn bw bf bm f most L t).holds w S) (hs : L[t]? = some s) (hsm : L.length ≤ 1000000) :
    Calls Try.prog 50 #[.int .i64 (ofC (f - t)), .int .i64 s, .pointer (some ⟨bo, 0, none⟩), .pointer (some ⟨bn, 0, none⟩), .pointer (some ⟨bw, 0, none⟩), .pointer (some ⟨bf, 0, none⟩), .pointer (some ⟨bm, 0, none⟩)] w
      (Fin w S (.bool (decide ((t : Int) + 1 < most))) [tellA bo bn bw bf bm f most L (t + 1)]) := by
  obtain ⟨a, cap, H⟩ := tell_parts (St.start (Sep.one h))
  obtain ⟨ht, hs⟩ := List.getElem?_eq_some_iff.1 hs
  obtain ⟨b, off, rfl, hb, hc⟩ := ints_cell (St.rd (by omega) 3 H rfl) rfl (by omega)
  have e0 := hc t ht
  rw [hs] at e0
  obtain ⟨zo, co, fo⟩ := H.box 0 rfl
  obtain ⟨zn, cn, fn⟩ := H.box 1 rfl
  obtain ⟨zw, cw, fw⟩ := H.box 2 rfl
  obtain ⟨zf, cf, ff⟩ := H.box 4 rfl
  obtain ⟨zm, cm, fm⟩ := H.box 5 rfl
  have n1 : ¬ bo = bn := H.ne_cells 0 1 rfl rfl (by omega)
  have n2 : ¬ bm = bn := fun e => H.ne_cells 1 5 rfl rfl (by omega) e.symm
  have n3 : ¬ bn = bo := fun e => n1 e.symm
  have P1 := fun W => rof_any f W
  have P2 := fun W => rof_any (ofC f - t) W
  rw [ofC_sub] at P2
  obtain ⟨c0, c1⟩ := ofC_bd f
  have q : decide ((t : Int) < L.length) = true := decide_eq_true (by omega)
  have H1 := H.set 0 rfl 0 (.bool true) (by simp)
  clear hc hs h
  generalize ofC (f - t) = y at *
  replace H1 := Lib.hid H1; replace P1 := Lib.hid P1; replace P2 := Lib.hid P2; replace H := Lib.hid H
  go_enter Try.func50, Try.ntmps50
  go_wp2_with fail
  refine wp_region_near_tail 24 (by kernel_rfl) (by kernel_rfl) ?_
  intro hs
  simp only [List.take_succ_cons, List.take_zero, List.drop_succ_cons, List.drop_zero]
  repeat (go_big_quiet_step ((first | (go_at_call 51; exact Calls.near (by simp) (P1.out _)) | (go_at_call 51; exact Calls.near (by simp) (P2.out _)))))
  refine wpQuiet_nil ?_
  clear hs
  intro w2 hb2
  clear H1
  have H2 := H.out.thru hb2
  obtain ⟨zo2, co2, fo2⟩ := H2.box 0 rfl
  have H3 := H2.set 0 rfl 0 (.bool true) (by simp)
  obtain ⟨zn3, cn3, fn3⟩ := H3.box 1 rfl
  have H4 := H3.set 1 rfl 0 (.int .i64 ((t : Int) + 1)) (by simp)
  obtain ⟨zn4, cn4, fn4⟩ := H4.box 0 rfl
  obtain ⟨zm4, cm4, fm4⟩ := H4.box 5 rfl
  have H5 := H4.arr [1, 0, 2, 3, 4, 5] rfl
  clear H2 H3 H4 co cn cw cf cm e0 P1 P2
  replace H5 := Lib.hid H5
  go_wp2_with fail
  go_ret
  exact ⟨by go_num, tell_shut (t := t + 1) (r := []) H5.out⟩

set_option maxRecDepth 100000 in
set_option maxHeartbeats 1000000 in
theorem each_tell (b1 b2 bo bn bw bf bm : Nat) (f most : Int) (R : List Run) (n cap : Nat) (hl : R.length = n) (hn : n ≤ 10000) (a : Option Addr) (w : World) (S : Nat → Prop)
    (h : (sepA [cellA b1 [.int .i64 f], cellA b2 [.slice a n cap], tellA bo bn bw bf bm f most (statesL R) 0]).holds w S) (hR : ∀ w' l, St w S w' l → Rd w' a (runs R)) :
    Calls Try.prog 91 #[.func (.func 50) #[] #[.pointer (some ⟨bo, 0, none⟩), .pointer (some ⟨bn, 0, none⟩), .pointer (some ⟨bw, 0, none⟩), .pointer (some ⟨bf, 0, none⟩), .pointer (some ⟨bm, 0, none⟩)], .pointer (some ⟨b1, 0, none⟩), .pointer (some ⟨b2, 0, none⟩)] w
      (fun e w' => (∃ v, e = .returned v) ∧ St w S w' [tellA bo bn bw bf bm f most (statesL R) (min (statesL R).length (max most 1).toNat), cellA b1 [.int .i64 f], cellA b2 [.slice a n cap]]) := by
  have H0 := (St.unsep 0 (St.start (Sep.one h)) rfl).front 2 rfl
  simp only [List.nil_append, List.cons_append, List.eraseIdx_cons_succ, List.eraseIdx_cons_zero] at H0
  have hsl := states_len R
  rw [hl] at hsl
  obtain ⟨z1, c1, f1⟩ := H0.box 1 rfl
  obtain ⟨z2, c2, f2⟩ := H0.box 2 rfl
  have P0 := fun W => Circ.of_any f W
  clear h
  replace P0 := Lib.hid P0; replace H0 := Lib.hid H0; replace hR := Lib.hid hR; replace hl := Lib.hid hl
  go_enter Try.func91, Try.ntmps91
  go_wp2_with fail
  refine Calls.mono (P0.out _) ?_
  rintro e w1 ⟨rfl, hb1⟩
  have H1 := H0.out.thru hb1
  clear P0 H0 c1 f1 c2 f2
  obtain ⟨z1, c1, f1⟩ := H1.box 1 rfl
  obtain ⟨z2, c2, f2⟩ := H1.box 2 rfl
  replace H1 := Lib.hid H1
  go_wp2_with fail
  go_loopg [4, 6, 11, 17] n (fun g v4 _ i _ wr => ∃ j T : Nat, j ≤ n ∧ g = n - j ∧ i = .int .i64 j ∧ T = (statesL (R.take j)).length ∧ v4 = .int .i64 (ofC (f - T)) ∧ (T = 0 ∨ (T : Int) < most) ∧ St w S wr [tellA bo bn bw bf bm f most (statesL R) T, cellA b1 [.int .i64 f], cellA b2 [.slice a n cap]])
  case atStart => exact ⟨0, 0, by omega, by omega, rfl, rfl, by simp, .inl rfl, H1.out⟩
  case round =>
    obtain ⟨j, T, hj, hg, rfl, hTe, rfl, hmost, hst⟩ := hrel
    clear c1 f1 c2 f2 H1
    by_cases hlt : j < n
    · have hjl : j < R.length := by have := hl.out; omega
      obtain ⟨b, off, rfl, hb, hc⟩ := runs_at (hR.out _ _ hst) hl.out (by omega)
      obtain ⟨e0, e1⟩ := hc j hjl
      have hstep := states_step hjl
      have hat := fun q hq => states_at (q := q) hjl hq
      rw [← hTe] at hstep hat
      have P1 := fun W => held_any R[j] W
      have hbd := held_bd R[j].many
      have hT : T ≤ 64 * n := by
        have := states_len (R.take j)
        rw [List.length_take] at this
        omega
      have H2 := hst.alloc [.int .i64 R[j].state, .int .i64 R[j].many] 115
      obtain ⟨zr, cr, fr⟩ := H2.box 0 rfl
      clear hc hst hTe
      generalize R[j] = r at *
      replace H2 := Lib.hid H2; replace P1 := Lib.hid P1; replace hat := Lib.hid hat; replace hstep := Lib.hid hstep
      go_wp2_with fail
      refine Calls.mono (P1.out _) ?_
      rintro e w3 ⟨rfl, hb3⟩
      have H3 := H2.out.thru hb3
      clear P1 H2 cr fr zr
      replace H3 := Lib.hid H3
      go_wp2_with fail
      obtain ⟨wo, hwo⟩ : ∃ wo : World, wo = wr := ⟨_, rfl⟩
      subst hwo
      go_loopg [4, 17] (heldI r.many).toNat (fun g v4 k ws => ∃ q : Nat, q ≤ (heldI r.many).toNat ∧ g = (heldI r.many).toNat - q ∧ k = .int .i64 q ∧ v4 = .int .i64 (ofC (f - (T + q : Nat))) ∧ (T + q = 0 ∨ ((T + q : Nat) : Int) < most) ∧ St w S ws [cellA wo.heap.size [.int .i64 r.state, .int .i64 r.many], tellA bo bn bw bf bm f most (statesL R) (T + q), cellA b1 [.int .i64 f], cellA b2 [.slice (some ⟨b, off, none⟩) n cap]])
      case atStart => exact ⟨0, by omega, by omega, rfl, rfl, hmost, H3.out⟩
      case round =>
        obtain ⟨q, hq, hgq, rfl, rfl, hmq, hst2⟩ := hrel
        clear H3
        by_cases hq2 : q < (heldI r.many).toNat
        · have d1 : decide ((q : Int) < heldI r.many) = true := decide_eq_true (by omega)
          have hats := hat.out q hq2
          have hlen := (List.getElem?_eq_some_iff.1 hats).1
          have P3 := Calls.st_at 1 hst2 rfl fun S h => tell_any bo bn bw bf bm f most (statesL R) (T + q) r.state _ S h hats (by omega)
          have P2 := fun W => Circ.add_any (ofC (f - (T + q : Nat))) (-1) W
          rw [show ofC (ofC (f - (T + q : Nat)) + -1) = ofC (f - (T + (q + 1) : Nat)) by unfold ofC; omega] at P2
          obtain ⟨zr, cr, fr⟩ := hst2.box 0 rfl
          generalize ofC (f - (T + q : Nat)) = sq at *
          clear hst2 hats
          replace P3 := Lib.hid P3; replace P2 := Lib.hid P2
          go_wp2_with fail
          refine Calls.mono P3.out ?_
          rintro e w4 ⟨rfl, h4⟩
          simp only [List.nil_append, List.cons_append, List.eraseIdx_cons_succ, List.eraseIdx_cons_zero] at h4
          clear P3
          by_cases hm : ((T + q : Nat) : Int) + 1 < most
          · rw [decide_eq_true hm]
            replace h4 := Lib.hid h4
            go_wp2_with fail
            refine Calls.mono (P2.out _) ?_
            rintro e w5 ⟨rfl, hb5⟩
            have h5 := (h4.out.thru hb5).front 1 rfl
            simp only [List.nil_append, List.cons_append, List.eraseIdx_cons_succ, List.eraseIdx_cons_zero] at h5
            clear P2 h4
            replace h5 := Lib.hid h5
            go_wp2_with fail
            go_roundg ((heldI r.many).toNat - (q + 1))
            case measure => omega
            case rel => exact ⟨q + 1, by omega, rfl, by go_num, rfl, .inr (by omega), h5.out⟩
          · rw [decide_eq_false hm]
            have ht : T + q + 1 = min (statesL R).length (max most 1).toNat := by omega
            rw [ht] at h4
            have h5 := h4.drop 1 rfl
            simp only [List.eraseIdx_cons_succ, List.eraseIdx_cons_zero] at h5
            clear P2 h4
            replace h5 := Lib.hid h5
            go_wp2_with fail
            refine bodyPost_ret (results_none rfl _ _ _) rfl ?_
            exact ⟨⟨_, rfl⟩, h5.out⟩
        · have d1 : decide ((q : Int) < heldI r.many) = false := decide_eq_false (by omega)
          obtain rfl : q = (heldI r.many).toNat := by omega
          have h6 := hst2.drop 0 rfl
          simp only [List.eraseIdx_cons_zero] at h6
          replace h6 := Lib.hid h6
          clear hst2
          go_wp2_with fail
          go_roundg (n - (j + 1))
          case measure => omega
          case rel => exact ⟨j + 1, T + (heldI r.many).toNat, by omega, rfl, by go_num, hstep.out.symm, rfl, hmq, h6.out⟩
    · obtain rfl : j = n := by omega
      rw [show R.take j = R from List.take_of_length_le (by have := hl.out; omega)] at hTe
      have ht : T = min (statesL R).length (max most 1).toNat := by omega
      rw [ht] at hst
      replace hst := Lib.hid hst
      go_wp2_with fail
      go_end0
      exact ⟨⟨_, rfl⟩, hst.out⟩
end Go.Proofs.Ytfdijoaclpnccaa.Avec
