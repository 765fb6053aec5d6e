/- The walks of Within: one behind the other, and the document's table. -/
import Derived.Test.YthodfihdmhkgeaaChanRef
namespace Go.Proofs.Ythodfihdmhkgeaa.Chan
set_option linter.unusedSimpArgs false
set_option linter.unusedVariables false
open Go Go.RowKit Go.Proofs.Ythodfihdmhkgeaa
attribute [local irreducible] Calls

def stepAt (got : List Dg) (at_ : Nat) (s : ByteArray) : Nat := if h : at_ < got.length then (if got[at_].2.toList == s.toList then at_ + 1 else at_) else at_
def greedy (got sent : List Dg) : Nat := sent.foldl (fun at_ d => stepAt got at_ d.2) 0
def withinB (sent got : List Dg) : Bool := decide (greedy got sent = got.length)
theorem stepAt_le {got : List Dg} {at_ : Nat} (s : ByteArray) (h : at_ ≤ got.length) : stepAt got at_ s ≤ got.length := by
  unfold stepAt
  split
  · split <;> omega
  · omega
theorem step_yes {got : List Dg} {at_ : Nat} {s : ByteArray} (h : at_ < got.length) (e : (got[at_].2.toList == s.toList) = true) : stepAt got at_ s = at_ + 1 := by simp [stepAt, h, e]
theorem step_no {got : List Dg} {at_ : Nat} {s : ByteArray} (h : at_ < got.length) (e : (got[at_].2.toList == s.toList) = false) : stepAt got at_ s = at_ := by simp [stepAt, h, e]
theorem step_end {got : List Dg} {at_ : Nat} {s : ByteArray} (h : ¬ at_ < got.length) : stepAt got at_ s = at_ := by simp [stepAt, h]
theorem greedy_take {got sent : List Dg} {k : Nat} (h : k < sent.length) : greedy got (sent.take (k + 1)) = stepAt got (greedy got (sent.take k)) sent[k].2 := foldl_take _ _ _ _ h

set_option maxHeartbeats 800000 in
theorem within_any (sent got : List Dg) (n m : Nat) (hl : sent.length = n) (hn : n ≤ maxLen) (gl : got.length = m) (hm : m ≤ maxLen) (a : Option Addr) (cap : Nat) (a' : Option Addr) (cap' : Nat) (w : World) (h : Rd w a (dgs sent)) (g : Rd w a' (dgs got)) :
    Calls Try.prog 21 #[.slice a n cap, .slice a' m cap'] w (Ret w (.bool (withinB sent got))) := by
  unfold maxLen at hn hm
  have H := Lib.hid h
  have HL := Lib.hid hl
  have G := Lib.hid g
  have GL := Lib.hid gl
  clear h hl g gl
  go_enter Try.func21, Try.ntmps21
  go_wp2_with fail
  go_loopg [5, 7, 10] n (fun g x _ i wr => ∃ (k at_ : Nat), k ≤ n ∧ g = n - k ∧ i = .int .i64 k ∧ x = .int .i64 at_ ∧ at_ ≤ m ∧ Hid (at_ = greedy got (sent.take k)) ∧ Below w.heap.size w wr)
  case atStart => exact ⟨0, 0, by omega, by omega, rfl, rfl, by omega, rfl, Below.refl _ _⟩
  case round =>
    obtain ⟨k, at_, hk, hg, rfl, rfl, hat, hgr, hbw⟩ := hrel
    have zw := hbw.size
    by_cases hlt : k < n
    · have hkl : k < sent.length := by have := HL.out; omega
      obtain ⟨b, off, rfl, hb, hc⟩ := dgs_at (H.out.below hbw) HL.out (by omega)
      obtain ⟨e0, e1⟩ := hc k hkl
      clear hc
      have hnx := greedy_take (got := got) hkl
      have hle := stepAt_le (got := got) (at_ := at_) sent[k].2 (by rw [GL.out]; omega)
      rw [GL.out, hgr.out, ← hnx] at hle
      rw [← hgr.out] at hnx
      replace hnx := Lib.hid hnx
      by_cases hm1 : at_ < m
      · have hal : at_ < got.length := by have := GL.out; omega
        obtain ⟨b2, off2, rfl, hb2, hc2⟩ := dgs_at (G.out.below hbw) GL.out (by omega)
        obtain ⟨g0, g1⟩ := hc2 at_ hal
        clear hc2
        have q : decide (at_ < m) = true := decide_eq_true hm1
        cases hq : (got[at_].2.toList == sent[k].2.toList)
        · have hx := step_no hal hq
          replace hx := Lib.hid hx
          go_wp2_with fail
          refine wp_region_near (by kernel_rfl) (by kernel_rfl) ?_
          intro hs
          repeat (go_big_quiet_step (fail))
          refine wpQuiet_nil ?_
          clear hs
          intro w2 hb3
          go_wp2_with fail
          go_roundg (n - (k + 1))
          case measure => omega
          case rel => exact ⟨k + 1, at_, by omega, rfl, by go_num, rfl, by omega, (by show _ = _; rw [hnx.out, hx.out]), (by repeat (first | with_reducible exact Below.refl _ _ | (with_reducible refine Below.al ?_) | (with_reducible refine Below.drew ?_) | (with_reducible refine Below.set ?_ (by first | (simp; done) | omega | (simp; omega))) | (with_reducible refine Below.thru ?_ (by assumption)) | (with_reducible refine Below.chg ?_ (by assumption) (by first | (simp; done) | omega | (simp; omega)))))⟩
        · have hx := step_yes hal hq
          replace hx := Lib.hid hx
          go_wp2_with fail
          refine wp_region_near (by kernel_rfl) (by kernel_rfl) ?_
          intro hs
          repeat (go_big_quiet_step (fail))
          refine wpQuiet_nil ?_
          clear hs
          intro w2 hb3
          go_wp2_with fail
          go_roundg (n - (k + 1))
          case measure => omega
          case rel => exact ⟨k + 1, at_ + 1, by omega, rfl, by go_num, by go_num, by omega, (by show _ = _; rw [hnx.out, hx.out]), (by repeat (first | with_reducible exact Below.refl _ _ | (with_reducible refine Below.al ?_) | (with_reducible refine Below.drew ?_) | (with_reducible refine Below.set ?_ (by first | (simp; done) | omega | (simp; omega))) | (with_reducible refine Below.thru ?_ (by assumption)) | (with_reducible refine Below.chg ?_ (by assumption) (by first | (simp; done) | omega | (simp; omega)))))⟩
      · have q : decide (at_ < m) = false := decide_eq_false hm1
        have hx := step_end (s := sent[k].2) (show ¬ at_ < got.length by have := GL.out; omega)
        replace hx := Lib.hid hx
        go_wp2_with fail
        refine wp_region_near (by kernel_rfl) (by kernel_rfl) ?_
        intro hs
        repeat (go_big_quiet_step (fail))
        refine wpQuiet_nil ?_
        clear hs
        intro w2 hb3
        go_wp2_with fail
        go_roundg (n - (k + 1))
        case measure => omega
        case rel => exact ⟨k + 1, at_, by omega, rfl, by go_num, rfl, by omega, (by show _ = _; rw [hnx.out, hx.out]), (by repeat (first | with_reducible exact Below.refl _ _ | (with_reducible refine Below.al ?_) | (with_reducible refine Below.drew ?_) | (with_reducible refine Below.set ?_ (by first | (simp; done) | omega | (simp; omega))) | (with_reducible refine Below.thru ?_ (by assumption)) | (with_reducible refine Below.chg ?_ (by assumption) (by first | (simp; done) | omega | (simp; omega)))))⟩
    · have hf : withinB sent got = ((at_ : Int) == (m : Int)) := by
        unfold withinB
        have h1 := hgr.out
        rw [List.take_of_length_le (by have := HL.out; omega)] at h1
        rw [← h1, GL.out, Bool.eq_iff_iff]
        simp
        omega
      replace hf := Lib.hid hf
      go_wp2_with fail
      go_ret
      exact Ret.mk (congrArg Value.bool hf.out.symm) (by repeat (first | with_reducible exact Below.refl _ _ | (with_reducible refine Below.al ?_) | (with_reducible refine Below.drew ?_) | (with_reducible refine Below.set ?_ (by first | (simp; done) | omega | (simp; omega))) | (with_reducible refine Below.thru ?_ (by assumption)) | (with_reducible refine Below.chg ?_ (by assumption) (by first | (simp; done) | omega | (simp; omega)))))

/-- The document's table, while a row is filled from its end on. -/
def canV (at0 at1 j x : Nat) : Bool := if j < x then decide (x ≤ at1) else decide (x ≤ at0)
def canL (at0 at1 j m : Nat) : List Value := (List.range (m + 1)).map fun x => Value.bool (canV at0 at1 j x)
theorem canL_at {at0 at1 j m x : Nat} (h : x ≤ m) : (canL at0 at1 j m)[x]? = some (.bool (canV at0 at1 j x)) := by
  unfold canL
  rw [List.getElem?_map, List.getElem?_range (by omega)]
  rfl
theorem canL_len (at0 at1 j m : Nat) : (canL at0 at1 j m).length = m + 1 := by simp [canL]
theorem canL_set {at0 at1 j m : Nat} (hj : 1 ≤ j) (hm : j ≤ m) {b : Bool} (hb : b = decide (j ≤ at1)) : (canL at0 at1 j m).set j (.bool b) = canL at0 at1 (j - 1) m := by
  apply List.ext_getElem?
  intro x
  by_cases hx : x ≤ m
  · rw [canL_at hx]
    by_cases e : j = x
    · subst e
      rw [List.getElem?_set_self (by rw [canL_len]; omega)]
      simp [canV, hb]; omega
    · rw [List.getElem?_set_ne e, canL_at hx]
      simp only [canV]
      by_cases h1 : j < x
      · rw [if_pos h1, if_pos (by omega)]
      · rw [if_neg h1, if_neg (by omega)]
  · rw [List.getElem?_eq_none (by rw [List.length_set, canL_len]; omega), List.getElem?_eq_none (by rw [canL_len]; omega)]
theorem canL_next (at0 at1 m : Nat) : canL at0 at1 0 m = canL at1 at1 m m := by
  unfold canL
  refine List.map_congr_left fun x hx => ?_
  have : x ≤ m := by have := List.mem_range.1 hx; omega
  congr 1
  unfold canV
  by_cases h : 0 < x
  · rw [if_pos h, if_neg (by omega)]
  · rw [if_neg h, if_neg (by omega)]
    rw [Bool.eq_iff_iff]; simp; omega
theorem canL_new (m : Nat) : (List.replicate (m + 1) (Value.bool false)).set 0 (.bool true) = canL 0 0 m m := by
  apply List.ext_getElem?
  intro x
  by_cases hx : x ≤ m
  · rw [canL_at hx]
    by_cases e : x = 0
    · subst e; rw [List.getElem?_set_self (by simp)]; simp [canV]
    · have h1 : canV 0 0 m x = false := by unfold canV; rw [if_neg (by omega)]; exact decide_eq_false (by omega)
      rw [List.getElem?_set_ne (by omega), List.getElem?_replicate, if_pos (by omega), h1]
  · rw [List.getElem?_eq_none (by simp; omega), List.getElem?_eq_none (by rw [canL_len]; omega)]
theorem bool_info : (Try.prog.info? 4).map (fun i => (i.zero, i.size, i.bytes)) = some (some (.bool false), 1, 1) := by kernel_rfl

set_option maxRecDepth 100000 in
set_option maxHeartbeats 1000000 in
theorem rwithin_any (sent got : List Dg) (n m : Nat) (hl : sent.length = n) (hn : n ≤ maxLen) (gl : got.length = m) (hm : m ≤ 100000) (a : Option Addr) (cap : Nat) (a' : Option Addr) (cap' : Nat) (w : World) (h : Rd w a (dgs sent)) (g : Rd w a' (dgs got)) :
    Calls Try.prog 22 #[.slice a n cap, .slice a' m cap'] w (Ret w (.bool (withinB sent got))) := by
  obtain ⟨i0, hi, hz, hz1, hz2⟩ := info_parts bool_info
  unfold maxLen at hn
  have H := Lib.hid h
  have HL := Lib.hid hl
  have G := Lib.hid g
  have GL := Lib.hid gl
  clear h hl g gl
  go_enter Try.func22, Try.ntmps22
  go_wp2_with (refine wpList_makeS rfl (.tmp 10) (.tmp 10) _ rfl 4 i0 (.bool false) 1 Try.underlying30 hi hz hz1 .i64 .i64 _ _ (m + 1) rfl rfl (by go_num) (by go_num) (by rw [hz2]; omega) (by unfold maxLen; omega) _ (made_one _ _ rfl) (St.zero w) ?_; intro w1 H1; obtain ⟨z1, c1, f1⟩ := H1.box 0 rfl; have H1 := Lib.hid H1)
  have H2 : St w none0 (w1.setCell ⟨w.heap.size, 0, none⟩ (.bool true)) [cellA w.heap.size ((List.replicate (m + 1) (Value.bool false)).set 0 (.bool true))] := H1.out.set 0 rfl 0 (.bool true) (by simp)
  rw [canL_new] at H2
  clear H1
  replace H2 := Lib.hid H2
  go_wp2_with fail
  go_loopg [6, 7] n (fun g i _ wr => ∃ (k at_ : Nat), k ≤ n ∧ g = n - k ∧ i = .int .i64 k ∧ at_ ≤ m ∧ Hid (at_ = greedy got (sent.take k)) ∧ St w none0 wr [cellA w.heap.size (canL at_ at_ m m)])
  case atStart => exact ⟨0, 0, by omega, by omega, rfl, by omega, rfl, H2.out⟩
  case round =>
    obtain ⟨k, at0, hk, hg, rfl, hat, hgr, hst⟩ := hrel
    clear c1 f1
    by_cases hlt : k < n
    · have hkl : k < sent.length := by have := HL.out; omega
      obtain ⟨wo, hwo⟩ : ∃ wo : World, wo = wr := ⟨_, rfl⟩
      subst hwo
      obtain ⟨b, off, rfl, hb, hc⟩ := dgs_at H.out HL.out (by omega)
      have HC := Lib.hid (hc k hkl)
      clear hc
      have hnx := greedy_take (got := got) hkl
      rw [← hgr.out] at hnx
      have hle := stepAt_le (got := got) (at_ := at0) sent[k].2 (by rw [GL.out]; omega)
      rw [GL.out] at hle
      have HY : Hid (∀ (h : at0 < got.length), (got[at0].2.toList == sent[k].2.toList) = true → stepAt got at0 sent[k].2 = at0 + 1) := fun h e => step_yes h e
      have HNo : Hid (∀ (h : at0 < got.length), (got[at0].2.toList == sent[k].2.toList) = false → stepAt got at0 sent[k].2 = at0) := fun h e => step_no h e
      have hge : at0 ≤ stepAt got at0 sent[k].2 ∧ stepAt got at0 sent[k].2 ≤ at0 + 1 := by
        unfold stepAt
        (repeat' split) <;> omega
      obtain ⟨hge0, hge1⟩ := hge
      generalize stepAt got at0 sent[k].2 = at1 at *
      generalize sent[k] = d at *
      replace hst := Lib.hid hst
      replace hnx := Lib.hid hnx
      go_wp2_with fail
      go_loopg [7] m (fun g j wr => ∃ j' : Nat, j' ≤ m ∧ g = j' ∧ j = .int .i64 j' ∧ St w none0 wr [cellA w.heap.size (canL at0 at1 j' m)])
      case atStart =>
        refine ⟨m, by omega, rfl, rfl, ?_⟩
        have h := hst.out
        rw [show canL at0 at0 m m = canL at0 at1 m m from List.map_congr_left fun x hx => by
          have : x ≤ m := by have := List.mem_range.1 hx; omega
          unfold canV
          rw [if_neg (by omega), if_neg (by omega)]] at h
        exact h
      case round =>
        obtain ⟨j, hj, hg', rfl, hst'⟩ := hrel
        have hbw := hst'.below
        have zw := hbw.size
        obtain ⟨zc, cc, fc⟩ := hst'.box 0 rfl
        replace hst' := Lib.hid hst'
        obtain ⟨e0, e1⟩ := HC.out
        rw [← (Below.blk hbw hb).1] at e0 e1
        have hb' : b < wr.heap.size := Nat.lt_of_lt_of_le hb zw
        by_cases hj0 : 0 < j
        · have q0 : IntKind.i64.wrap ((j : Int) - 1) = ((j - 1 : Nat) : Int) := by rw [IntWalk.i64_in _ (by omega)]; omega
          have x0 := (cc j).trans (canL_at hj)
          have x1 := (cc (j - 1)).trans (canL_at (by omega))
          have v0 : canV at0 at1 j j = decide (j ≤ at0) := by unfold canV; rw [if_neg (by omega)]
          have v1 : canV at0 at1 j (j - 1) = decide (j - 1 ≤ at0) := by unfold canV; rw [if_neg (by omega)]
          rw [v0] at x0
          rw [v1] at x1
          clear cc v0 v1
          by_cases h1 : j ≤ at0
          · rw [decide_eq_true h1] at x0
            have hB : true = decide (j ≤ at1) := (decide_eq_true (by omega)).symm
            have hS : (canL (at0) at1 j m).set j (.bool true) = canL (at0) at1 (j - 1) m := canL_set hj0 hj hB
            replace hS := Lib.hid hS
            clear hB
            go_wp2_with fail
            refine wp_region_near_tail 28 (by kernel_rfl) (by kernel_rfl) ?_
            intro hs
            simp only [List.take_succ_cons, List.take_zero, List.drop_succ_cons, List.drop_zero]
            repeat (go_big_quiet_step (fail))
            refine wpQuiet_nil ?_
            clear hs
            intro w2 hb3
            have hst2 := hst'.out.thru hb3
            obtain ⟨z2, c2, f2⟩ := hst2.box 0 rfl
            have x2 := (c2 _).trans (canL_at hj)
            clear c2
            replace hst2 := Lib.hid hst2
            go_wp2_with fail
            have hst3 := hst2.out.set 0 rfl _ (.bool true) (by rw [canL_len]; exact Nat.lt_succ_of_le hj)
            rw [hS.out] at hst3
            go_roundg (j - 1)
            case measure => omega
            case rel => exact ⟨j - 1, by omega, rfl, rfl, hst3⟩
          · rw [decide_eq_false h1] at x0
            by_cases h2 : j - 1 ≤ at0
            · obtain rfl : at0 = j - 1 := by omega
              rw [decide_eq_true h2] at x1
              have hal : j - 1 < got.length := by have := GL.out; omega
              obtain ⟨b2, off2, rfl, hb2, hc2⟩ := dgs_at (G.out.below hbw) GL.out (by omega)
              have g1 := (hc2 (j - 1) hal).2
              clear hc2
              have hB : (got[j - 1].2.toList == d.2.toList) = decide (j ≤ at1) := by
                cases hq : (got[j - 1].2.toList == d.2.toList)
                · have := HNo.out hal hq; exact (decide_eq_false (by omega)).symm
                · have := HY.out hal hq; exact (decide_eq_true (by omega)).symm
              have hS : (canL (j - 1) at1 j m).set j (.bool (got[j - 1].2.toList == d.2.toList)) = canL (j - 1) at1 (j - 1) m := canL_set hj0 hj hB
              replace hS := Lib.hid hS
              clear hB
              go_wp2_with fail
              refine wp_region_near_tail 28 (by kernel_rfl) (by kernel_rfl) ?_
              intro hs
              simp only [List.take_succ_cons, List.take_zero, List.drop_succ_cons, List.drop_zero]
              repeat (go_big_quiet_step (fail))
              refine wpQuiet_nil ?_
              clear hs
              intro w2 hb3
              have hst2 := hst'.out.thru hb3
              obtain ⟨z2, c2, f2⟩ := hst2.box 0 rfl
              have x2 := (c2 _).trans (canL_at hj)
              clear c2
              replace hst2 := Lib.hid hst2
              go_wp2_with fail
              have hst3 := hst2.out.set 0 rfl _ (.bool (got[j - 1].2.toList == d.2.toList)) (by rw [canL_len]; exact Nat.lt_succ_of_le hj)
              rw [hS.out] at hst3
              go_roundg (j - 1)
              case measure => omega
              case rel => exact ⟨j - 1, by omega, rfl, rfl, hst3⟩
            · rw [decide_eq_false h2] at x1
              have hB : false = decide (j ≤ at1) := (decide_eq_false (by omega)).symm
              have hS : (canL (at0) at1 j m).set j (.bool false) = canL (at0) at1 (j - 1) m := canL_set hj0 hj hB
              replace hS := Lib.hid hS
              clear hB
              go_wp2_with fail
              refine wp_region_near_tail 28 (by kernel_rfl) (by kernel_rfl) ?_
              intro hs
              simp only [List.take_succ_cons, List.take_zero, List.drop_succ_cons, List.drop_zero]
              repeat (go_big_quiet_step (fail))
              refine wpQuiet_nil ?_
              clear hs
              intro w2 hb3
              have hst2 := hst'.out.thru hb3
              obtain ⟨z2, c2, f2⟩ := hst2.box 0 rfl
              have x2 := (c2 _).trans (canL_at hj)
              clear c2
              replace hst2 := Lib.hid hst2
              go_wp2_with fail
              have hst3 := hst2.out.set 0 rfl _ (.bool false) (by rw [canL_len]; exact Nat.lt_succ_of_le hj)
              rw [hS.out] at hst3
              go_roundg (j - 1)
              case measure => omega
              case rel => exact ⟨j - 1, by omega, rfl, rfl, hst3⟩
        · obtain rfl : j = 0 := by omega
          have hst2 : St w none0 wr [cellA w.heap.size (canL at1 at1 m m)] := by have h := hst'.out; rw [canL_next] at h; exact h
          replace hst2 := Lib.hid hst2
          go_wp2_with fail
          go_roundg (n - (k + 1))
          case measure => omega
          case rel => exact ⟨k + 1, at1, by omega, rfl, by go_num, hle, (by show _ = _; rw [hnx.out]), hst2.out⟩
    · have hbw := hst.below
      obtain ⟨zc, cc, fc⟩ := hst.box 0 rfl
      have x0 := (cc m).trans (canL_at (Nat.le_refl m))
      have hf : withinB sent got = canV at0 at0 m m := by
        unfold withinB canV
        have h1 := hgr.out
        rw [List.take_of_length_le (by have := HL.out; omega)] at h1
        rw [← h1, GL.out, if_neg (by omega), Bool.eq_iff_iff]
        simp
        omega
      clear cc
      rw [← hf] at x0
      clear hf
      go_wp2_with fail
      go_ret
      exact Ret.mk rfl (by repeat (first | with_reducible exact Below.refl _ _ | (with_reducible refine Below.al ?_) | (with_reducible refine Below.drew ?_) | (with_reducible refine Below.set ?_ (by first | (simp; done) | omega | (simp; omega))) | (with_reducible refine Below.thru ?_ (by assumption)) | (with_reducible refine Below.chg ?_ (by assumption) (by first | (simp; done) | omega | (simp; omega)))))
end Go.Proofs.Ythodfihdmhkgeaa.Chan
