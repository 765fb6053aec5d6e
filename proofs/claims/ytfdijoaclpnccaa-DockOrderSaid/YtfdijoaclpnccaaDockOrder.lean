/- The walk of the statement DockOrder. -/
import Derived.Test.YtfdijoaclpnccaaDockWorks
import Derived.Test.YtfdijoaclpnccaaDockSStr
namespace Go.Proofs.Ytfdijoaclpnccaa.DockLaw
set_option linter.unusedSimpArgs false
set_option linter.unusedVariables false
open Go Go.RowKit Go.Proofs.Ytfdijoaclpnccaa
attribute [local irreducible] Calls

theorem strs_one {w : World} {a : Option Addr} {l : List ByteArray} (h : Rd w a (strs l)) {n : Nat} (hn : l.length = n) (h0 : 0 < n) :
    ∃ b off, a = some ⟨b, off, none⟩ ∧ b < w.heap.size ∧ ∀ i (hi : i < l.length), w.cell? ⟨b, off + i, none⟩ = some (.string l[i]) := by
  obtain ⟨b, off, e, hb, hc⟩ := h.cons (strs_ne hn h0)
  exact ⟨b, off, e, hb, fun i hi => hc i _ (strs_at hi)⟩
set_option maxRecDepth 100000 in
set_option maxHeartbeats 800000 in
theorem order_walk (a : Option Addr) (n cap : Nat) (w : World) (h0 : Fits w (.slice 1 .str) [.slice a n cap]) :
    Calls Try.prog 6 #[.slice a n cap] w (Ret w (.bool true)) := by
  obtain ⟨hn, _, L, hl, hgood, hL⟩ := strs_in h0
  unfold maxLen at hn
  clear h0
  replace hl := Lib.hid hl; replace hL := Lib.hid hL; replace hgood := Lib.hid hgood
  go_enter Try.func6, Try.ntmps6
  go_wp2_with fail
  refine Calls.mono (works_law _) ?_
  rintro e w1 ⟨rfl, hb1⟩
  have z1 := Below.size hb1; try simp only [World.size_alloc, World.size_setCell, World.size_drew] at z1
  have H1 := (St.zero w).thru hb1
  by_cases h300 : 300 < n
  · have q : decide ((300 : Int) < n) = true := decide_eq_true (by omega)
    replace H1 := Lib.hid H1
    go_wp2_with fail
    go_ret
    exact H1.out.ret rfl
  have qq : decide ((300 : Int) < n) = false := decide_eq_false (by omega)
  have q300 : n ≤ 300 := by omega
  replace H1 := Lib.hid H1
  go_wp2_with fail
  refine Calls.mono (DockSStr.new_any n _) ?_
  rw [show min (max (n : Int) 0) 1000 = (n : Int) from by omega]
  rintro e w2 ⟨d, rfl, H2⟩
  have H2' := (H1.out.add H2).drops 1
  clear H2 H1
  replace H2' := Lib.hid H2'
  go_wp2_with fail
  go_loopg [4] n (fun g i wr => ∃ j : Nat, j ≤ n ∧ g = n - j ∧ i = .int .i64 j ∧ St w none0 wr [DockSStr.dockA d n (L.take j)])
  case atStart => exact ⟨0, by omega, by omega, rfl, H2'.out⟩
  case round =>
    obtain ⟨j, hj, hg, rfl, hst⟩ := hrel
    by_cases hlt : j < n
    · have hjl : j < L.length := by have := hl.out; omega
      obtain ⟨b, off, rfl, hb, hc⟩ := strs_one (hL.out.below hst.below) hl.out (by omega)
      have e0 := hc j hjl
      have htk : L.take j ++ [L[j]] = L.take (j + 1) := (List.take_succ_eq_append_getElem hjl).symm
      have hlj : (L.take j).length = j := by rw [List.length_take]; omega
      have P1 := Calls.st_at 0 hst rfl fun S h => DockSStr.push_any d n (L.take j) L[j] _ S h (by omega)
      rw [hlj, if_pos (by omega), htk, decide_eq_true (show (j : Int) < n by omega)] at P1
      simp only [DockSStr.val] at P1
      clear hc hst htk H2' hlj
      generalize L[j] = u at *
      replace P1 := Lib.hid P1
      go_wp2_with fail
      refine Calls.mono P1.out ?_
      rintro e w3 ⟨rfl, H3⟩
      clear P1
      replace H3 := Lib.hid H3
      go_wp2_with fail
      go_roundg (n - (j + 1))
      case measure => omega
      case rel => exact ⟨j + 1, by omega, rfl, by go_num, H3.out⟩
    · obtain rfl : j = n := by omega
      have hlj : (L.take j).length = j := by rw [List.length_take]; have := hl.out; omega
      have P1 := Calls.st_at 0 hst rfl fun S h => DockSStr.push_any d j (L.take j) ⟨#[109, 111, 114, 101]⟩ _ S h (by omega)
      rw [hlj, if_neg (by omega), decide_eq_false (show ¬ (j : Int) < j by omega)] at P1
      rw [show L.take j = L from List.take_of_length_le (by have := hl.out; omega)] at P1
      simp only [DockSStr.val] at P1
      clear hst H2' hlj
      replace P1 := Lib.hid P1
      go_wp2_with fail
      refine Calls.mono P1.out ?_
      rintro e w3 ⟨rfl, H3⟩
      clear P1
      replace H3 := Lib.hid H3
      go_wp2_with fail
      go_loopg [5, 6, 7] j (fun g i _ _ wr => ∃ k : Nat, k ≤ j ∧ g = j - k ∧ i = .int .i64 k ∧ St w none0 wr [DockSStr.dockA d j (L.drop k)])
      case atStart => exact ⟨0, by omega, by omega, rfl, H3.out⟩
      case round =>
        obtain ⟨k, hk, hg, rfl, hst⟩ := hrel
        by_cases hlt : k < j
        · have hkl : k < L.length := by have := hl.out; omega
          obtain ⟨b, off, rfl, hb, hc⟩ := strs_one hL.out hl.out (by omega)
          have ew := hc k hkl
          rw [List.drop_eq_getElem_cons hkl] at hst
          have P2 := Calls.st_at 0 hst rfl fun S h => DockSStr.pull_cons d j L[k] (L.drop (k + 1)) _ S h
          have zw := hst.size
          clear hc hst H3
          generalize L[k] = u at *
          replace P2 := Lib.hid P2; replace ew := Lib.hid ew
          go_wp2_with fail
          refine Calls.mono P2.out ?_
          rintro e w4 ⟨rfl, H4⟩
          have e4 := ((Below.blk H4.below hb).1 (off + k)).trans ew.out
          have z4 : b < w4.heap.size := Nat.lt_of_lt_of_le hb H4.size
          clear P2
          replace H4 := Lib.hid H4
          go_wp2_with fail
          go_roundg (j - (k + 1))
          case measure => omega
          case rel => exact ⟨k + 1, by omega, rfl, by go_num, H4.out⟩
        · obtain rfl : k = j := by omega
          rw [List.drop_of_length_le (by have := hl.out; omega)] at hst
          have P2 := Calls.rd_at 0 hst rfl fun S h => DockSStr.pull_nil d k _ S h
          clear hst H3
          replace P2 := Lib.hid P2
          go_wp2_with fail
          refine Calls.mono P2.out ?_
          rintro e w4 ⟨rfl, H4⟩
          have P3 := Calls.rd_at 0 H4 rfl fun S h => DockSStr.len_any d k [] _ S h
          rw [show ((([] : List DockSStr.El).length : Nat) : Int) = 0 from rfl] at P3
          clear P2 H4
          replace P3 := Lib.hid P3
          go_wp2_with fail
          refine Calls.mono P3.out ?_
          rintro e w5 ⟨rfl, H5⟩
          replace H5 := Lib.hid H5
          go_wp2_with fail
          go_ret
          exact H5.out.ret rfl
end Go.Proofs.Ytfdijoaclpnccaa.DockLaw
