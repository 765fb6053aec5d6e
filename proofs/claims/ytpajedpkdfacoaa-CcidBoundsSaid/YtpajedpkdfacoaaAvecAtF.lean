/- The walks of avec.Each, its iterator, avec.At. -/
import Derived.Test.YtpajedpkdfacoaaAvecLite
import Derived.Test.YtpajedpkdfacoaaCircle
import Derived.Test.YtpajedpkdfacoaaRange
import Derived.RangeFuncCalls
import Derived.RangeFuncLeaves
import Derived.Shelf.Abstract
import Derived.Shelf.RegionOpen
import Derived.WalkKit
import Derived.OwnWalkIn
import Derived.TacticsInMore
import Derived.Sort.LoopGhostIn
namespace Go.Proofs.Ytpajedpkdfacoaa.Avec
set_option linter.unusedSimpArgs false
set_option linter.unusedVariables false
open Go Go.RowKit Go.Shelf Go.Proofs.Ytpajedpkdfacoaa Go.Proofs.Ytpajedpkdfacoaa.Circ
attribute [local irreducible] Calls
attribute [local go_sem] Oper.semAt_some

/-- All packets, from one on backwards. -/
def eachL (f : Int) (R : List Run) : List (Int × Int) := (statesL R).mapIdx fun i s => (ofC (f - i), s)
theorem each_len (f : Int) (R : List Run) : (eachL f R).length = (statesL R).length := by simp [eachL]
theorem each_split {f : Int} {R : List Run} {t : Nat} {s : Int} (h : (statesL R)[t]? = some s) : eachL f R = (eachL f R).take t ++ (ofC (f - t), s) :: (eachL f R).drop (t + 1) ∧ (eachL f R).take t ++ [(ofC (f - t), s)] = (eachL f R).take (t + 1) := by
  obtain ⟨ht, hs⟩ := List.getElem?_eq_some_iff.1 h
  have hl : t < (eachL f R).length := by rw [each_len]; exact ht
  have e : (eachL f R)[t] = (ofC (f - t), s) := by simp [eachL, hs]
  constructor
  · rw [← e, List.getElem_cons_drop, List.take_append_drop]
  · rw [← e]; exact (List.take_succ_eq_append_getElem hl).symm
theorem states_at {R : List Run} {j q : Nat} (hj : j < R.length) (hq : q < (heldI R[j].many).toNat) : (statesL R)[(statesL (R.take j)).length + q]? = some R[j].state := by
  have h1 := states_take hj
  have h2 : statesL R = statesL (R.take (j + 1)) ++ statesL (R.drop (j + 1)) := by
    conv => lhs; rw [← List.take_append_drop (j + 1) R]
    simp only [statesL, List.flatMap_append]
  rw [h2, h1, List.getElem?_append_left (by simp; omega), List.getElem?_append_right (by omega)]
  simp [hq]
theorem states_step {R : List Run} {j : Nat} (hj : j < R.length) : (statesL (R.take (j + 1))).length = (statesL (R.take j)).length + (heldI R[j].many).toNat := by
  rw [states_take hj]; simp
theorem each_new (f : Int) (a : Option Addr) (n cap : Nat) (w : World) : Calls Try.prog 139 #[.int .i64 f, .slice a n cap] w (fun e w' => ∃ b1 b2, e = .returned (.func (.func 144) #[] #[.pointer (some ⟨b1, 0, none⟩), .pointer (some ⟨b2, 0, none⟩)]) ∧ St w none0 w' [cellA b1 [.int .i64 f], cellA b2 [.slice a n cap]]) := by
  have H := (((St.zero w).alloc [.int .i64 f] 3).alloc [.slice a n cap] 50).arr [1, 0] rfl
  simp only [World.size_alloc] at H
  replace H := Lib.hid H
  go_enter Try.func139, Try.ntmps139
  go_wp2_with fail
  go_ret
  exact ⟨_, _, rfl, H.out⟩
set_option maxRecDepth 100000 in
set_option maxHeartbeats 1000000 in
theorem each_iter (k : Nat) (b1 b2 : Nat) (f : Int) (R : List Run) (n cap : Nat) (hl : R.length = n) (hn : n ≤ 100000) (a : Option Addr) (W : World) (S0 : Nat → Prop) (hR : ∀ w' l, St W S0 w' l → Rd w' a (runs R)) :
    Iter Fence.wide k Try.prog 144 #[.pointer (some ⟨b1, 0, none⟩), .pointer (some ⟨b2, 0, none⟩)] (fun x : Int × Int => #[.int .i64 x.1, .int .i64 x.2]) (eachL f R) [cellA b1 [.int .i64 f], cellA b2 [.slice a n cap]] W S0 := by
  intro L w J Jx h hY
  have H0 : St W S0 w (cellA b1 [.int .i64 f] :: cellA b2 [.slice a n cap] :: J []) := h
  obtain ⟨z1, c1, f1⟩ := H0.box 0 rfl
  obtain ⟨z2, c2, f2⟩ := H0.box 1 rfl
  have P0 := fun W => Circ.of_any f W
  clear h
  replace P0 := Lib.hid P0; replace H0 := Lib.hid H0; replace hY := Lib.hid hY; replace hR := Lib.hid hR; replace hl := Lib.hid hl
  refine callsIn_of_wp Try.func144 rfl trivial ?_ rfl
  simp only [Try.ntmps144, List.size_toArray, List.length_cons, List.length_nil, Nat.reduceAdd, Nat.reduceSub, Array.replicate_succ, Array.replicate_zero, List.push_toArray, List.append_toArray, List.nil_append, List.cons_append]
  gi_wp2
  refine ⟨trivial, (fun h => nomatch h), (callsIn_wide.2 (P0.out _)).mono ?_⟩
  rintro e w1 ⟨rfl, hb1⟩
  have H1 := H0.out.thru hb1
  clear P0 H0 c1 f1 c2 f2
  obtain ⟨z1, c1, f1⟩ := H1.box 0 rfl
  obtain ⟨z2, c2, f2⟩ := H1.box 1 rfl
  replace H1 := Lib.hid H1
  simp only []
  gi_wp2
  gi_loopg [4, 6, 11, 17] n (fun g v4 _ i _ wr => ∃ j : Nat, j ≤ n ∧ g = n - j ∧ i = .int .i64 j ∧ v4 = .int .i64 (ofC (f - (statesL (R.take j)).length)) ∧ St W S0 wr ([cellA b1 [.int .i64 f], cellA b2 [.slice a n cap]] ++ J ((eachL f R).take (statesL (R.take j)).length)))
  case atStart => exact ⟨0, by omega, by omega, rfl, by simp [statesL], H1.out⟩
  case round =>
    obtain ⟨j, hj, hg, rfl, rfl, hst⟩ := hrel
    clear c1 f1 c2 f2
    by_cases hlt : j < n
    · have hjl : j < R.length := by have := hl.out; omega
      obtain ⟨b, off, rfl, hb, hc⟩ := runs_at (hR.out _ _ hst) hl.out (by omega)
      obtain ⟨e0, e1⟩ := hc j hjl
      have hstep := states_step hjl
      have hat := fun q hq => states_at (q := q) hjl hq
      have P1 := fun W => held_any R[j] W
      have hbd := held_bd R[j].many
      have hT : (statesL (R.take j)).length ≤ 64 * n := by
        have := states_len (R.take j)
        rw [List.length_take] at this
        omega
      have H2 := hst.alloc [.int .i64 R[j].state, .int .i64 R[j].many] 89
      obtain ⟨zr, cr, fr⟩ := H2.box 0 rfl
      clear hc hst H1
      generalize R[j] = r at *
      generalize (statesL (R.take j)).length = T at *
      replace H2 := Lib.hid H2; replace P1 := Lib.hid P1; replace hat := Lib.hid hat; replace hstep := Lib.hid hstep
      gi_wp2
      refine ⟨trivial, (fun h => nomatch h), (callsIn_wide.2 (P1.out _)).mono ?_⟩
      rintro e w3 ⟨rfl, hb3⟩
      have H3 := H2.out.thru hb3
      clear P1 H2 cr fr zr
      replace H3 := Lib.hid H3
      simp only []
      gi_wp2
      obtain ⟨wo, hwo⟩ : ∃ wo : World, wo = wr := ⟨_, rfl⟩
      subst hwo
      gi_loopg [4, 17] (heldI r.many).toNat (fun g v4 k ws => ∃ q : Nat, q ≤ (heldI r.many).toNat ∧ g = (heldI r.many).toNat - q ∧ k = .int .i64 q ∧ v4 = .int .i64 (ofC (f - (T + q : Nat))) ∧ St W S0 ws ([cellA wo.heap.size [.int .i64 r.state, .int .i64 r.many], cellA b1 [.int .i64 f], cellA b2 [.slice (some ⟨b, off, none⟩) n cap]] ++ J ((eachL f R).take (T + q))))
      case atStart => exact ⟨0, by omega, by omega, rfl, rfl, H3.out⟩
      case round =>
        obtain ⟨q, hq, hgq, rfl, rfl, hst2⟩ := hrel
        clear H3
        by_cases hq2 : q < (heldI r.many).toNat
        · have d1 : decide ((q : Int) < heldI r.many) = true := decide_eq_true (by omega)
          obtain ⟨hx, htk⟩ := each_split (f := f) (hat.out q hq2)
          obtain ⟨fn', tmps, assign, body, hy, hRd⟩ := hY.out [cellA wo.heap.size [.int .i64 r.state, .int .i64 r.many], cellA b1 [.int .i64 f], cellA b2 [.slice (some ⟨b, off, none⟩) n cap]] _ _ _ _ hx hst2
          rw [htk] at hRd
          have P2 := fun W => Circ.add_any (ofC (f - (T + q : Nat))) (-1) W
          rw [show ofC (ofC (f - (T + q : Nat)) + -1) = ofC (f - (T + (q + 1) : Nat)) by unfold ofC; omega] at P2
          obtain ⟨zr, cr, fr⟩ := hst2.box 0 rfl
          generalize ofC (f - (T + q : Nat)) = sq at *
          clear hst2
          replace hRd := Lib.hid hRd; replace hx := Lib.hid hx; replace htk := Lib.hid htk; replace P2 := Lib.hid P2
          gi_wp2
          refine ⟨(fun h => nomatch h), hRd.out.mono ?_⟩
          rintro e w4 (⟨rfl, h3⟩ | ⟨rfl, h3⟩)
          · replace h3 := Lib.hid h3
            clear hRd hy
            simp only []
            gi_wp2
            refine ⟨trivial, (fun h => nomatch h), (callsIn_wide.2 (P2.out _)).mono ?_⟩
            rintro e w5 ⟨rfl, hb5⟩
            have h5 := h3.out.thru hb5
            replace h5 := Lib.hid h5
            simp only []
            gi_wp2
            gi_roundg ((heldI r.many).toNat - (q + 1))
            case measure => omega
            case rel => exact ⟨q + 1, by omega, rfl, by go_num, rfl, h5.out⟩
          · replace h3 := Lib.hid h3
            clear hRd hy P2
            simp only []
            gi_wp2
            refine bodyPost_ret (results_none rfl _ _ _) rfl ?_
            exact ⟨⟨_, rfl⟩, .inr ⟨_, _, _, hx.out, by rw [htk.out]; exact h3.out.drop 0 rfl⟩⟩
        · have d1 : decide ((q : Int) < heldI r.many) = false := decide_eq_false (by omega)
          obtain rfl : q = (heldI r.many).toNat := by omega
          have h6 := hst2.drop 0 rfl
          rw [← hstep.out] at h6
          replace h6 := Lib.hid h6
          clear hst2
          gi_wp2
          gi_roundg (n - (j + 1))
          case measure => omega
          case rel => exact ⟨j + 1, by omega, rfl, by go_num, by rw [hstep.out], h6.out⟩
    · obtain rfl : j = n := by omega
      rw [show R.take j = R from List.take_of_length_le (by have := hl.out; omega), ← each_len f R, List.take_length] at hst
      clear H1
      replace hst := Lib.hid hst
      gi_wp2
      go_end0
      exact ⟨⟨_, rfl⟩, .inl hst.out⟩
end Go.Proofs.Ytpajedpkdfacoaa.Avec
