/- The iterator that slices.All hands back, over options. -/
import Derived.Test.YtljgmephajocaaaOptsBack
import Derived.Test.YtljgmephajocaaaRange
import Derived.RangeFuncCalls
import Derived.RangeFuncLeaves
import Derived.Shelf.Abstract
import Derived.Shelf.RegionOpen
import Derived.WalkKit
import Derived.OwnWalkIn
import Derived.TacticsInMore
import Derived.Sort.LoopGhostIn
namespace Go.Proofs.Ytljgmephajocaaa.Opts
set_option linter.unusedSimpArgs false
set_option linter.unusedVariables false
open Go Go.RowKit Go.Shelf Go.Proofs.Ytljgmephajocaaa
attribute [local irreducible] Calls
attribute [local go_sem] Oper.semAt_some

/-- Options with their places. -/
def pairs (l : List El) : List (El × Nat) := l.zipIdx
def tellP (p : El × Nat) : Array Value := #[.int .i64 (p.2 : Int), val p.1]
theorem pairs_len (l : List El) : (pairs l).length = l.length := by simp [pairs]
theorem pairs_at {l : List El} {j : Nat} (h : j < l.length) : pairs l = (pairs l).take j ++ (l[j], j) :: (pairs l).drop (j + 1) ∧ (pairs l).take j ++ [(l[j], j)] = (pairs l).take (j + 1) := by
  have h2 : j < (pairs l).length := by rw [pairs_len]; exact h
  have e : (pairs l)[j] = (l[j], j) := by simp [pairs]
  rw [← e]
  exact ⟨by rw [List.getElem_cons_drop, List.take_append_drop], (List.take_succ_eq_append_getElem h2).symm⟩
set_option maxRecDepth 100000 in
set_option maxHeartbeats 400000 in
theorem all_iter (k nb : Nat) (l : List El) (n cap : Nat) (hl : l.length = n) (hn : n ≤ 100000) (a : Option Addr) (W : World) (S0 : Nat → Prop) (hR : ∀ w' L, St W S0 w' L → Rd w' a (encs l)) :
    Iter Fence.wide k Try.prog 163 #[.pointer (some ⟨nb, 0, none⟩)] tellP (pairs l) [cellA nb [.slice a n cap]] W S0 := by
  intro L w J Jx h hY
  have H0 : St W S0 w (cellA nb [.slice a n cap] :: J []) := h
  obtain ⟨zn, cn, fn⟩ := H0.box 0 rfl
  replace H0 := Lib.hid H0; replace hY := Lib.hid hY; replace hR := Lib.hid hR; replace hl := Lib.hid hl
  clear h
  refine callsIn_of_wp Try.func163 rfl trivial ?_ rfl
  simp only [Try.ntmps163, List.size_toArray, List.length_cons, List.length_nil, Nat.reduceAdd, Nat.reduceSub, Array.replicate_succ, Array.replicate_zero, List.push_toArray, List.append_toArray, List.nil_append, List.cons_append]
  gi_wp2
  gi_loopg [3, 4, 7] n (fun g _ _ i wr => ∃ j : Nat, j ≤ n ∧ g = n - j ∧ i = .int .i64 j ∧ St W S0 wr ([cellA nb [.slice a n cap]] ++ J ((pairs l).take j)))
  case atStart => exact ⟨0, by omega, by omega, rfl, H0.out⟩
  case round =>
    obtain ⟨j, hj, hg, rfl, hst⟩ := hrel
    clear cn fn zn H0
    by_cases hlt : j < n
    · have hjl : j < l.length := by have := hl.out; omega
      obtain ⟨hx, htk⟩ := pairs_at hjl
      obtain ⟨b, off, rfl, hb, hc⟩ := els_at (hR.out _ _ hst) hl.out (by omega)
      obtain ⟨e0, e1⟩ := hc j hjl
      have H2 := hst.alloc [.int .i64 l[j].1, .string l[j].2] 73
      obtain ⟨fn', tmps, assign, body, hy, hRd⟩ := hY.out [cellA wr.heap.size [.int .i64 l[j].1, .string l[j].2], cellA nb [.slice (some ⟨b, off, none⟩) n cap]] _ _ _ _ hx H2
      rw [htk] at hRd
      unfold tellP val at hy
      clear hc
      generalize l[j] = u at *
      simp only at hy
      clear hst
      replace hRd := Lib.hid hRd; replace hx := Lib.hid hx; replace htk := Lib.hid htk; replace H2 := Lib.hid H2
      gi_wp2
      refine ⟨(fun h => nomatch h), hRd.out.mono ?_⟩
      rintro e w2 (⟨rfl, h3⟩ | ⟨rfl, h3⟩)
      · replace h3 := Lib.hid (h3.drop 0 rfl)
        clear hRd hy
        simp only []
        gi_wp2
        gi_roundg (n - (j + 1))
        case measure => omega
        case rel => exact ⟨j + 1, by omega, rfl, by go_num, h3.out⟩
      · replace h3 := Lib.hid (h3.drop 0 rfl)
        clear hRd hy
        simp only []
        gi_wp2
        refine bodyPost_ret (results_none rfl _ _ _) rfl ?_
        exact ⟨⟨_, rfl⟩, .inr ⟨_, _, _, hx.out, by rw [htk.out]; exact h3.out⟩⟩
    · obtain rfl : j = n := by omega
      rw [show (pairs l).take j = pairs l from List.take_of_length_le (by rw [pairs_len, hl.out]; omega)] at hst
      replace hst := Lib.hid hst
      gi_wp2
      go_end0
      exact ⟨⟨_, rfl⟩, .inl hst.out⟩
theorem all_new (a : Option Addr) (n cap : Nat) (w : World) :
    Calls Try.prog 109 #[.slice a n cap] w (fun e w' => ∃ b, e = .returned (.func (.func 163) #[] #[.pointer (some ⟨b, 0, none⟩)]) ∧ St w none0 w' [cellA b [.slice a n cap]]) := by
  have P : Calls Try.prog 142 #[.slice a n cap] w (fun e w' => ∃ b, e = .returned (.func (.func 163) #[] #[.pointer (some ⟨b, 0, none⟩)]) ∧ St w none0 w' [cellA b [.slice a n cap]]) := by
    have H := (St.zero w).alloc [.slice a n cap] 62
    replace H := Lib.hid H
    go_enter Try.func142, Try.ntmps142
    go_wp2_with fail
    go_ret
    exact ⟨_, rfl, H.out⟩
  go_enter Try.func109, Try.ntmps109
  go_wp2_with fail
  refine Calls.mono P ?_
  rintro e w1 ⟨b, rfl, H⟩
  replace H := Lib.hid H
  go_wp2_with fail
  go_ret
  exact ⟨b, rfl, H.out⟩

end Go.Proofs.Ytljgmephajocaaa.Opts
