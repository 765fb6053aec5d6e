/- The iterator that the package dock's All hands back, at a type of elements that lie in one slot: its contract. -/
import Derived.Test.YtpajedpkdfacoaaDockTPtr
import Derived.Test.YtpajedpkdfacoaaRange
import Derived.RangeFuncCalls
import Derived.RangeFuncLeaves
import Derived.Shelf.Abstract
import Derived.Shelf.RegionOpen
import Derived.WalkKit
import Derived.OwnWalkIn
import Derived.TacticsInMore
import Derived.Sort.LoopGhostIn
namespace Go.Proofs.Ytpajedpkdfacoaa.DockSPtr
set_option linter.unusedSimpArgs false
set_option linter.unusedVariables false
open Go Go.RowKit Go.Shelf Go.Proofs.Ytpajedpkdfacoaa Go.Proofs.Ytpajedpkdfacoaa.DelPtr
attribute [local irreducible] Calls

set_option maxRecDepth 100000 in
set_option maxHeartbeats 400000 in
theorem all_iter (k : Nat) (d nb : Nat) (most : Int) (l : List El) (hl2 : l.length ≤ 100000) (W : World) (S0 : Nat → Prop) :
    Iter Fence.wide k Try.prog 142 #[.pointer (some ⟨nb, 0, none⟩)] (fun x => #[val x]) l [cellA nb [.pointer (some ⟨d, 0, none⟩)], dockA d most l] W S0 := by
  intro L w J Jx h hY
  have H0 : St W S0 w (cellA nb [.pointer (some ⟨d, 0, none⟩)] :: dockA d most l :: J []) := h
  obtain ⟨v, H1⟩ := dock_parts (H0.front 1 rfl)
  obtain ⟨a, cap, hv, hn, hcm, ha0, hR⟩ := St.slice (by omega) 1 H1 rfl
  subst hv
  obtain ⟨zd, cd, fd⟩ := H1.box 0 rfl
  obtain ⟨zn, cn, fn⟩ := H1.box 2 rfl
  have hc0 : a = none → cap = 0 := fun e => by
    rcases (H1.row 1 rfl).2 with ⟨e', _⟩ | ⟨_, _, _, e', _⟩
    · injection e'
    · injection e' with e1; rw [e] at e1; cases e1
  have P0 := clone_any l a cap w hR ha0 hl2 hc0
  clear H1 hR hc0 h
  replace P0 := Lib.hid P0; replace H0 := Lib.hid H0; replace hY := Lib.hid hY
  refine callsIn_of_wp Try.func142 rfl trivial ?_ rfl
  simp only [Try.ntmps142, List.size_toArray, List.length_cons, List.length_nil, Nat.reduceAdd, Nat.reduceSub, Array.replicate_succ, Array.replicate_zero, List.push_toArray, List.append_toArray, List.nil_append, List.cons_append]
  gi_wp2
  refine ⟨trivial, (fun h => nomatch h), (callsIn_wide.2 P0.out).mono ?_⟩
  rintro e w1 ⟨cv, rfl, HC⟩
  have H2 := H0.out.add HC
  clear HC P0 H0 cd fd cn fn
  obtain ⟨ca, cc, hv, _, _, _, _⟩ := St.slice (by omega) 0 H2 rfl
  subst hv
  replace H2 := Lib.hid H2
  simp only []
  gi_wp2
  gi_loopg [4, 13] l.length (fun g _ i wr => ∃ j : Nat, j ≤ l.length ∧ g = l.length - j ∧ i = .int .i64 j ∧ St W S0 wr ([rowA 1 (.slice ca l.length cc) l.length (encs l), cellA nb [.pointer (some ⟨d, 0, none⟩)], dockA d most l] ++ J (l.take j)))
  case atStart => exact ⟨0, by omega, by omega, rfl, H2.out⟩
  case round =>
    obtain ⟨j, hj, hg, rfl, hst⟩ := hrel
    by_cases hlt : j < l.length
    · have hx : l = l.take j ++ l[j] :: l.drop (j + 1) := by rw [List.getElem_cons_drop, List.take_append_drop]
      have htk : l.take j ++ [l[j]] = l.take (j + 1) := (List.take_succ_eq_append_getElem hlt).symm
      obtain ⟨fn', tmps, assign, body, hy, hR⟩ := hY.out _ (l.take j) l[j] (l.drop (j + 1)) wr hx hst
      rw [htk] at hR
      have hRd := St.rd (by omega) 0 hst rfl
      obtain ⟨b, off, rfl, hb, hc⟩ := Rd.rows enc_len (by omega) hRd rfl (by omega)
      have e0 := hc j hlt 0 _ rfl
      simp only [Nat.mul_one, Nat.add_zero] at e0
      unfold val at hy
      clear hc hRd H2 hst
      generalize l[j] = u at *
      replace hR := Lib.hid hR; replace hx := Lib.hid hx; replace htk := Lib.hid htk
      gi_wp2
      refine ⟨(fun h => nomatch h), hR.out.mono ?_⟩
      rintro e w2 (⟨rfl, h3⟩ | ⟨rfl, h3⟩)
      · replace h3 := Lib.hid h3
        clear hR hy
        simp only []
        gi_wp2
        gi_roundg (l.length - (j + 1))
        case measure => omega
        case rel => exact ⟨j + 1, by omega, rfl, by go_num, h3.out⟩
      · replace h3 := Lib.hid h3
        clear hR hy
        simp only []
        gi_wp2
        refine bodyPost_ret (results_none rfl _ _ _) rfl ?_
        refine ⟨⟨_, rfl⟩, .inr ⟨l.take j, u, l.drop (j + 1), hx.out, by rw [htk.out]; exact h3.out.drop 0 rfl⟩⟩
    · obtain rfl : j = l.length := by omega
      rw [List.take_length] at hst
      clear H2
      replace hst := Lib.hid hst
      gi_wp2
      go_end0
      exact ⟨⟨_, rfl⟩, .inl (hst.out.drop 0 rfl)⟩
end Go.Proofs.Ytpajedpkdfacoaa.DockSPtr
