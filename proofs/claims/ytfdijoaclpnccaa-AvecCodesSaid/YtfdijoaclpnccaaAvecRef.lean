/- The walks of avec's answer: States, Of, Same. -/
import Derived.Test.YtfdijoaclpnccaaAvecOf
import Derived.Deep.CutBlock
import Derived.Deep.DeepCutAuto
namespace Go.Proofs.Ytfdijoaclpnccaa.Avec
set_option linter.unusedSimpArgs false
set_option linter.unusedVariables false
open Go Go.RowKit Go.Proofs.Ytfdijoaclpnccaa
attribute [local irreducible] Calls

theorem int_info : (Try.prog.info? 3).map (fun i => (i.zero, i.size, i.bytes)) = some (some (.int .i64 0), 1, 8) := by kernel_rfl
theorem i64s_app (l : List Int) (n : Int) : i64s l ++ [Value.int .i64 n] = i64s (l ++ [n]) := by simp [i64s]
set_option maxRecDepth 100000 in
set_option maxHeartbeats 400000 in
theorem same_any (l : List Run) (n : Nat) (hl : l.length = n) (hn : n ≤ maxLen) (a : Option Addr) (cap : Nat) (a' : Option Addr) (cap' : Nat) (w : World) (h : Rd w a (runs l)) (g : Rd w a' (runs l)) :
    Calls Try.prog 47 #[.slice a n cap, .slice a' n cap'] w (Ret w (.bool true)) := by
  unfold maxLen at hn
  replace h := Lib.hid h; replace g := Lib.hid g; replace hl := Lib.hid hl
  go_enter Try.func47, Try.ntmps47
  go_wp2_with fail
  go_loopg [5] n (fun g i wr => ∃ k : Nat, k ≤ n ∧ g = n - k ∧ i = .int .i64 k ∧ Below w.heap.size w wr)
  case atStart => exact ⟨0, by omega, by omega, rfl, (by repeat (first | with_reducible exact Below.refl _ _ | (with_reducible refine Below.al ?_) | (with_reducible refine Below.drew ?_) | (with_reducible refine Below.set ?_ (by first | (simp; done) | omega | (simp; omega))) | (with_reducible refine Below.thru ?_ (by assumption)) | (with_reducible refine Below.chg ?_ (by assumption) (by first | (simp; done) | omega | (simp; omega)))))⟩
  case round =>
    obtain ⟨k, hk, hg, rfl, hbw⟩ := hrel
    by_cases hlt : k < n
    · have hkl : k < l.length := by have := hl.out; omega
      obtain ⟨b, off, rfl, hb, hc⟩ := runs_at (h.out.below hbw) hl.out (by omega)
      obtain ⟨b', off', rfl, hb', hc'⟩ := runs_at (g.out.below hbw) hl.out (by omega)
      obtain ⟨e0, e1⟩ := hc k hkl
      obtain ⟨f0, f1⟩ := hc' k hkl
      clear hc hc'
      generalize l[k] = d at *
      go_wp2_with fail
      refine wp_region_near (by kernel_rfl) (by kernel_rfl) ?_
      intro hs
      repeat (go_big_quiet_step (fail))
      refine wpQuiet_nil ?_
      clear hs
      intro w2 hb2
      go_wp2_with fail
      go_roundg (n - (k + 1))
      case measure => omega
      case rel => exact ⟨k + 1, by omega, rfl, by go_num, (by repeat (first | with_reducible exact Below.refl _ _ | (with_reducible refine Below.al ?_) | (with_reducible refine Below.drew ?_) | (with_reducible refine Below.set ?_ (by first | (simp; done) | omega | (simp; omega))) | (with_reducible refine Below.thru ?_ (by assumption)) | (with_reducible refine Below.chg ?_ (by assumption) (by first | (simp; done) | omega | (simp; omega)))))⟩
    · go_wp2_with fail
      go_ret
      exact Ret.mk rfl (by repeat (first | with_reducible exact Below.refl _ _ | (with_reducible refine Below.al ?_) | (with_reducible refine Below.drew ?_) | (with_reducible refine Below.set ?_ (by first | (simp; done) | omega | (simp; omega))) | (with_reducible refine Below.thru ?_ (by assumption)) | (with_reducible refine Below.chg ?_ (by assumption) (by first | (simp; done) | omega | (simp; omega)))))

theorem states_take {l : List Run} {j : Nat} (h : j < l.length) : statesL (l.take (j + 1)) = statesL (l.take j) ++ List.replicate (heldI l[j].many).toNat l[j].state := by
  unfold statesL
  rw [List.take_succ_eq_append_getElem h, List.flatMap_append]
  simp
theorem states_len (l : List Run) : (statesL l).length ≤ 64 * l.length := by
  induction l with
  | nil => simp [statesL]
  | cons r l ih =>
    have := held_bd r.many
    simp only [statesL, List.flatMap_cons, List.length_append, List.length_replicate, List.length_cons] at ih ⊢
    omega
set_option maxRecDepth 100000 in
set_option maxHeartbeats 400000 in
theorem states_ref (l : List Run) (n : Nat) (hl : l.length = n) (hn : n ≤ 1000000) (a : Option Addr) (cap : Nat) (w : World) (h : Rd w a (runs l)) :
    Calls Try.prog 46 #[.slice a n cap] w (fun e w' => ∃ v, e = .returned v ∧ St w none0 w' [rowA 1 v (statesL l).length (i64s (statesL l))]) := by
  obtain ⟨i0, hi, hz, hz1, hz2⟩ := info_parts int_info
  replace h := Lib.hid h; replace hl := Lib.hid hl
  go_enter Try.func46, Try.ntmps46
  go_wp2_with fail
  go_loopg [3, 4, 5] n (fun g ov i _ wr => ∃ (j : Nat) (O : List Int), j ≤ n ∧ g = n - j ∧ i = .int .i64 j ∧ Hid (O = statesL (l.take j)) ∧ St w none0 wr [rowA 1 ov O.length (i64s O)])
  case atStart => exact ⟨0, [], by omega, by omega, rfl, rfl, (St.zero w).row_nil⟩
  case round =>
    obtain ⟨ov, hov⟩ : ∃ v, v = u3 := ⟨_, rfl⟩
    subst hov
    obtain ⟨j, O, hj, hg, rfl, hO, hst⟩ := hrel
    by_cases hlt : j < n
    · have hjl : j < l.length := by have := hl.out; omega
      have hnx := states_take hjl
      rw [← hO.out] at hnx
      have hOl : O.length ≤ 64 * n := by
        have := states_len (l.take j)
        rw [← hO.out, List.length_take] at this
        omega
      have hbd := held_bd l[j].many
      replace hst := Lib.hid hst; replace hnx := Lib.hid hnx
      go_wp2_with fail
      go_loopg [3, 5] (heldI l[j].many).toNat (fun g pv k wr => ∃ q : Nat, q ≤ (heldI l[j].many).toNat ∧ g = (heldI l[j].many).toNat - q ∧ k = .int .i64 q ∧ St w none0 wr [rowA 1 pv (O ++ List.replicate q l[j].state).length (i64s (O ++ List.replicate q l[j].state))])
      case atStart => exact ⟨0, by omega, by omega, rfl, by simpa using hst.out⟩
      case round =>
        obtain ⟨pv, hpv⟩ : ∃ v, v = u3 := ⟨_, rfl⟩
        subst hpv
        obtain ⟨q, hq, hg2, rfl, hst2⟩ := hrel
        clear hst
        obtain ⟨b, off, rfl, hb, hc⟩ := runs_at (h.out.below hst2.below) hl.out (by omega)
        obtain ⟨e0, e1⟩ := hc j hjl
        clear hc
        have hrep : O ++ List.replicate q l[j].state ++ [l[j].state] = O ++ List.replicate (q + 1) l[j].state := by rw [List.replicate_succ', List.append_assoc]
        have hql : (O ++ List.replicate q l[j].state).length = O.length + q := by simp
        by_cases hq2 : q < (heldI l[j].many).toNat
        · have d1 : decide ((q : Int) < heldI l[j].many) = true := decide_eq_true (by omega)
          replace hrep := Lib.hid hrep; replace hst2 := Lib.hid hst2
          go_wp2_with fail
          refine Calls.mono (held_ref _ _) ?_
          rintro e w4 ⟨rfl, hb4⟩
          have H4 := hst2.out.thru hb4
          obtain ⟨c4, f4⟩ := Below.blk hb4 (b := b) (by first | (simp; done) | omega | (simp; omega))
          have z4 : b < w4.heap.size := Nat.lt_of_lt_of_le hb hb4.size
          replace H4 := Lib.hid H4
          go_wp2_with (at_builtin; (refine wpList_appS rfl (.tmp 22) (.tmp 28) _ rfl 3 i0 _ 1 8 Try.underlying71 hi hz hz1 hz2 rfl (by omega) 0 pv _ _ rfl H4.out rfl 1 1 [.int .i64 l[j].state] rfl rfl (by simp [Value.oneCell']) (by omega) (by omega) ?_; intro wv5 w5 H5; rw [i64s_app, hrep.out] at H5; replace H5 := Lib.hid H5))
          go_roundg ((heldI l[j].many).toNat - (q + 1))
          case measure => omega
          case rel => exact ⟨q + 1, by omega, rfl, by go_num, by rw [← hrep.out, List.length_append]; rw [hrep.out]; exact H5.out⟩
        · have d1 : decide ((q : Int) < heldI l[j].many) = false := decide_eq_false (by omega)
          obtain rfl : q = (heldI l[j].many).toNat := by omega
          rw [← hnx.out] at hst2
          replace hrep := Lib.hid hrep; replace hst2 := Lib.hid hst2
          go_wp2_with fail
          refine Calls.mono (held_ref _ _) ?_
          rintro e w4 ⟨rfl, hb4⟩
          have H4 := hst2.out.thru hb4
          replace H4 := Lib.hid H4
          go_wp2_with fail
          go_roundg (n - (j + 1))
          case measure => omega
          case rel => exact ⟨j + 1, statesL (l.take (j + 1)), by omega, rfl, by go_num, rfl, H4.out⟩
    · obtain rfl : j = n := by omega
      have hf : O = statesL l := by rw [hO.out, List.take_of_length_le (by have := hl.out; omega)]
      replace hf := Lib.hid hf; replace hst := Lib.hid hst
      go_wp2_with fail
      go_ret
      rw [← hf.out]
      exact ⟨_, rfl, hst.out⟩
end Go.Proofs.Ytfdijoaclpnccaa.Avec
