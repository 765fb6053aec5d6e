/- The walk of the statement InetTells. -/
import Derived.Test.YthodfihdmhkgeaaInetRef2
namespace Go.Proofs.Ythodfihdmhkgeaa.Inet
set_option linter.unusedSimpArgs false
set_option linter.unusedVariables false
open Go Go.RowKit Go.Proofs.Ythodfihdmhkgeaa Go.Proofs.Ythodfihdmhkgeaa.Octets
attribute [local irreducible] Calls

set_option maxRecDepth 100000 in
set_option maxHeartbeats 1000000 in
theorem tells_walk (a : Option Addr) (n cap : Nat) (from_ : Int) (w1' : (Lit.int .i64 from_).wf = true) (to_ : Int) (w2' : (Lit.int .i64 to_).wf = true) (cover : Int) (w3' : (Lit.int .i64 cover).wf = true) (w : World) (h0 : Fits w (.slice 1 .str) [.slice a n cap]) :
    Calls Try.prog 12 #[.slice a n cap, .int .i64 from_, .int .i64 to_, .int .i64 cover] w (Ret w (.bool true)) := by
  have b1 := bounds_i64 w1'
  have b2 := bounds_i64 w2'
  have b3 := bounds_i64 w3'
  obtain ⟨hn, _, ps, hl, hsz, h⟩ := strs_in h0
  clear w1' w2' w3' h0
  have hl' := hl
  replace h := Lib.hid h
  go_enter Try.func12, Try.ntmps12
  go_wp2_with fail
  refine Calls.mono (works_law _) ?_
  rintro e w1 ⟨rfl, hb1⟩
  have z1 := Below.size hb1; try simp only [World.size_alloc, World.size_setCell, World.size_drew] at z1
  go_wp2_with fail
  refine Calls.mono (great_any ps n hl hn hsz a cap _ (h.out.below hb1)) ?_
  rintro e w2 ⟨b, rfl, hg, hb2⟩
  have z2 := hb2.size
  cases b
  · obtain ⟨hn5, hall⟩ := hg rfl
    clear hg hn hsz
    by_cases c : 1 < n
    · have q : decide ((1 : Int) < n) = true := decide_eq_true (by omega)
      obtain ⟨bk, off, rfl, hbk, hc⟩ := ((h.out.below hb1).below hb2).cons (strs_ne hl (show 0 < n by omega))
      have e0 := hc 0 _ (strs_at (show 0 < ps.length by omega))
      have e1 := hc 1 _ (strs_at (show 1 < ps.length by omega))
      have hsizes : ps[0].size ≤ 4000 ∧ ps[1].size ≤ 4000 := ⟨hall _ (List.getElem_mem _), hall _ (List.getElem_mem _)⟩
      clear hc
      obtain ⟨head, hhead⟩ : ∃ x, x = ps[0] := ⟨_, rfl⟩
      obtain ⟨data, hdata⟩ : ∃ x, x = ps[1] := ⟨_, rfl⟩
      rw [← hhead] at e0 hsizes
      rw [← hdata] at e1 hsizes
      clear hhead hdata
      rw [Nat.add_zero] at e0
      obtain ⟨hh, hd⟩ := hsizes
      have P1 := fun w => covered_any head data cover hh hd b3 w
      have P2 := fun w => rcovered head data cover hh hd b3 w
      have P3 := fun w h => sum_any ps n hl' (by omega) (fun s hs => by have := hall s hs; omega) (some ⟨bk, off, none⟩) cap w h
      have P4 := fun w h => rsum_any ps n hl' hn5 hall (some ⟨bk, off, none⟩) cap w h
      have P5 := fun w => pseudo_any from_ to_ cover b1 b2 b3 w
      have P6 := fun w => rpseudo from_ to_ cover w
      have P7 := fun w => patch_any from_ to_ cover w
      have P8 := fun w => rpatch from_ to_ cover w
      generalize covV head data cover = cv at *
      generalize covB data cover = cb at *
      generalize sumV (wsum ps : Int) = sv at *
      generalize psV from_ to_ cover = pv at *
      generalize 65535 - ocI (65535 - from_ % 65536 + (65535 - to_ % 65536) + cover % 65536) = tv at *
      replace P1 := Lib.hid P1; replace P2 := Lib.hid P2; replace P3 := Lib.hid P3; replace P4 := Lib.hid P4; replace P5 := Lib.hid P5; replace P6 := Lib.hid P6; replace P7 := Lib.hid P7; replace P8 := Lib.hid P8; replace hall := Lib.hid hall
      clear hh hd
      go_wp2_with fail
      refine Calls.mono (P1.out _) ?_
      rintro e w3 ⟨rfl, hb3⟩
      have z3 := Below.size hb3; try simp only [World.size_alloc, World.size_setCell, World.size_drew] at z3
      go_wp2_with fail
      refine Calls.mono (P2.out _) ?_
      rintro e w4 ⟨rfl, hb4⟩
      have z4 := Below.size hb4; try simp only [World.size_alloc, World.size_setCell, World.size_drew] at z4
      go_wp2_with fail
      have hbq : Below w.heap.size w w4 := (by repeat (first | with_reducible exact Below.refl _ _ | (with_reducible refine Below.al ?_) | (with_reducible refine Below.drew ?_) | (with_reducible refine Below.set ?_ (by first | (simp; done) | omega | (simp; omega))) | (with_reducible refine Below.thru ?_ (by assumption)) | (with_reducible refine Below.chg ?_ (by assumption) (by first | (simp; done) | omega | (simp; omega)))))
      refine Calls.mono (P3.out _ (h.out.below hbq)) ?_
      rintro e w5 ⟨rfl, hb5⟩
      have z5 := Below.size hb5; try simp only [World.size_alloc, World.size_setCell, World.size_drew] at z5
      have hbq5 := Below.thru hbq hb5
      go_wp2_with fail
      refine Calls.mono (P4.out _ (h.out.below hbq5)) ?_
      rintro e w6 ⟨rfl, hb6⟩
      have z6 := Below.size hb6; try simp only [World.size_alloc, World.size_setCell, World.size_drew] at z6
      go_wp2_with fail
      refine Calls.mono (P5.out _) ?_
      rintro e w7 ⟨rfl, hb7⟩
      have z7 := Below.size hb7; try simp only [World.size_alloc, World.size_setCell, World.size_drew] at z7
      go_wp2_with fail
      refine Calls.mono (P6.out _) ?_
      rintro e w8 ⟨rfl, hb8⟩
      have z8 := Below.size hb8; try simp only [World.size_alloc, World.size_setCell, World.size_drew] at z8
      go_wp2_with fail
      refine Calls.mono (P7.out _) ?_
      rintro e w9 ⟨rfl, hb9⟩
      have z9 := Below.size hb9; try simp only [World.size_alloc, World.size_setCell, World.size_drew] at z9
      go_wp2_with fail
      refine Calls.mono (P8.out _) ?_
      rintro e w10 ⟨rfl, hb10⟩
      have z10 := Below.size hb10; try simp only [World.size_alloc, World.size_setCell, World.size_drew] at z10
      go_wp2_with fail
      go_ret
      exact Ret.mk rfl (by repeat (first | with_reducible exact Below.refl _ _ | (with_reducible refine Below.al ?_) | (with_reducible refine Below.drew ?_) | (with_reducible refine Below.set ?_ (by first | (simp; done) | omega | (simp; omega))) | (with_reducible refine Below.thru ?_ (by assumption)) | (with_reducible refine Below.chg ?_ (by assumption) (by first | (simp; done) | omega | (simp; omega)))))
    · have q : decide ((1 : Int) < n) = false := decide_eq_false (by omega)
      have hsizes : (⟨#[]⟩ : ByteArray).size ≤ 4000 ∧ (⟨#[]⟩ : ByteArray).size ≤ 4000 := by decide
      obtain ⟨hh, hd⟩ := hsizes
      have P1 := fun w => covered_any ⟨#[]⟩ ⟨#[]⟩ cover hh hd b3 w
      have P2 := fun w => rcovered ⟨#[]⟩ ⟨#[]⟩ cover hh hd b3 w
      have P3 := fun w h => sum_any ps n hl' (by omega) (fun s hs => by have := hall s hs; omega) a cap w h
      have P4 := fun w h => rsum_any ps n hl' hn5 hall a cap w h
      have P5 := fun w => pseudo_any from_ to_ cover b1 b2 b3 w
      have P6 := fun w => rpseudo from_ to_ cover w
      have P7 := fun w => patch_any from_ to_ cover w
      have P8 := fun w => rpatch from_ to_ cover w
      generalize covV ⟨#[]⟩ ⟨#[]⟩ cover = cv at *
      generalize covB ⟨#[]⟩ cover = cb at *
      generalize sumV (wsum ps : Int) = sv at *
      generalize psV from_ to_ cover = pv at *
      generalize 65535 - ocI (65535 - from_ % 65536 + (65535 - to_ % 65536) + cover % 65536) = tv at *
      replace P1 := Lib.hid P1; replace P2 := Lib.hid P2; replace P3 := Lib.hid P3; replace P4 := Lib.hid P4; replace P5 := Lib.hid P5; replace P6 := Lib.hid P6; replace P7 := Lib.hid P7; replace P8 := Lib.hid P8; replace hall := Lib.hid hall
      clear hh hd
      go_wp2_with fail
      refine Calls.mono (P1.out _) ?_
      rintro e w3 ⟨rfl, hb3⟩
      have z3 := Below.size hb3; try simp only [World.size_alloc, World.size_setCell, World.size_drew] at z3
      go_wp2_with fail
      refine Calls.mono (P2.out _) ?_
      rintro e w4 ⟨rfl, hb4⟩
      have z4 := Below.size hb4; try simp only [World.size_alloc, World.size_setCell, World.size_drew] at z4
      go_wp2_with fail
      have hbq : Below w.heap.size w w4 := (by repeat (first | with_reducible exact Below.refl _ _ | (with_reducible refine Below.al ?_) | (with_reducible refine Below.drew ?_) | (with_reducible refine Below.set ?_ (by first | (simp; done) | omega | (simp; omega))) | (with_reducible refine Below.thru ?_ (by assumption)) | (with_reducible refine Below.chg ?_ (by assumption) (by first | (simp; done) | omega | (simp; omega)))))
      refine Calls.mono (P3.out _ (h.out.below hbq)) ?_
      rintro e w5 ⟨rfl, hb5⟩
      have z5 := Below.size hb5; try simp only [World.size_alloc, World.size_setCell, World.size_drew] at z5
      have hbq5 := Below.thru hbq hb5
      go_wp2_with fail
      refine Calls.mono (P4.out _ (h.out.below hbq5)) ?_
      rintro e w6 ⟨rfl, hb6⟩
      have z6 := Below.size hb6; try simp only [World.size_alloc, World.size_setCell, World.size_drew] at z6
      go_wp2_with fail
      refine Calls.mono (P5.out _) ?_
      rintro e w7 ⟨rfl, hb7⟩
      have z7 := Below.size hb7; try simp only [World.size_alloc, World.size_setCell, World.size_drew] at z7
      go_wp2_with fail
      refine Calls.mono (P6.out _) ?_
      rintro e w8 ⟨rfl, hb8⟩
      have z8 := Below.size hb8; try simp only [World.size_alloc, World.size_setCell, World.size_drew] at z8
      go_wp2_with fail
      refine Calls.mono (P7.out _) ?_
      rintro e w9 ⟨rfl, hb9⟩
      have z9 := Below.size hb9; try simp only [World.size_alloc, World.size_setCell, World.size_drew] at z9
      go_wp2_with fail
      refine Calls.mono (P8.out _) ?_
      rintro e w10 ⟨rfl, hb10⟩
      have z10 := Below.size hb10; try simp only [World.size_alloc, World.size_setCell, World.size_drew] at z10
      go_wp2_with fail
      go_ret
      exact Ret.mk rfl (by repeat (first | with_reducible exact Below.refl _ _ | (with_reducible refine Below.al ?_) | (with_reducible refine Below.drew ?_) | (with_reducible refine Below.set ?_ (by first | (simp; done) | omega | (simp; omega))) | (with_reducible refine Below.thru ?_ (by assumption)) | (with_reducible refine Below.chg ?_ (by assumption) (by first | (simp; done) | omega | (simp; omega)))))
  · go_wp2_with fail
    go_ret
    exact Ret.mk rfl (by repeat (first | with_reducible exact Below.refl _ _ | (with_reducible refine Below.al ?_) | (with_reducible refine Below.drew ?_) | (with_reducible refine Below.set ?_ (by first | (simp; done) | omega | (simp; omega))) | (with_reducible refine Below.thru ?_ (by assumption)) | (with_reducible refine Below.chg ?_ (by assumption) (by first | (simp; done) | omega | (simp; omega)))))
end Go.Proofs.Ythodfihdmhkgeaa.Inet
