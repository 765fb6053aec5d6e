/- The walk of cursor of the statement OrderDeadline. -/
import Derived.Test.YtiaefmmcakagpaaOrdDead
import Derived.Test.YtiaefmmcakagpaaOrdDoes
namespace Go.Proofs.Ytiaefmmcakagpaa.Ord
set_option linter.unusedSimpArgs false
set_option linter.unusedVariables false
open Go Go.RowKit Go.Shelf Go.Proofs.Ytiaefmmcakagpaa Go.Proofs.Ytiaefmmcakagpaa.Sift Go.Proofs.Ytiaefmmcakagpaa.Hold
open Go.Proofs.Ytiaefmmcakagpaa.DockWait (El enc val encs placed headV)
attribute [local irreducible] Calls

set_option maxRecDepth 100000 in
theorem cursor_st {W w : World} {S0 : Nat → Prop} {o s k : Nat} {x : Or} {n : Nat} {last : Int} {r : List Asn} (hg : Good x n last) (hn : n ≤ 1000) (H : St W S0 w (orderP o s k x :: r)) :
    Calls Try.prog 47 #[.pointer (some ⟨o, 0, none⟩)] w (Ret w (.int .i64 x.c)) := by
  have P := counts_st hg hn H
  have h1 := hg.bds
  have h2 := hg.rels
  have h3 := hg.cur
  have h4 := hg.ok.c1
  have h5 := hg.ok.c0
  have h6 := hg.rlen
  have h7 := hg.s0
  have h8 := hg.g0
  unfold top at h4
  unfold cntV at P
  have hsum : x.c - x.rel + x.giv + x.spl + x.rdy.length = x.c := by omega
  have hs1 : -1000 ≤ x.c - x.rel ∧ x.c - x.rel ≤ 140737488356327 ∧ x.giv ≤ 1000 ∧ x.spl ≤ 1000 := by omega
  replace P := Lib.hid P; replace H := Lib.hid H; replace hsum := Lib.hid hsum; replace h2 := Lib.hid h2
  go_enter Try.func47, Try.ntmps47
  go_wp2_with fail
  refine Calls.mono (P.out) ?_
  rintro e w3 ⟨rfl, hb3⟩
  have z3 := Below.size hb3; try simp only [World.size_alloc, World.size_setCell, World.size_drew] at z3
  have H6 := (H.out.thru hb3).skip (.cells #[.int .i64 x.came, .int .i64 x.ref, .int .i64 x.spl, .int .i64 x.giv, .int .i64 (x.c - x.rel)] 75)
  have PR := fun (s' : Near (w3.alloc (.cells #[.int .i64 x.came, .int .i64 x.ref, .int .i64 x.spl, .int .i64 x.giv, .int .i64 (x.c - x.rel)] 75)).heap.size (w3.alloc (.cells #[.int .i64 x.came, .int .i64 x.ref, .int .i64 x.spl, .int .i64 x.giv, .int .i64 (x.c - x.rel)] 75))) => ready_st (H6.thruB (by simp) (Near.near s'))
  clear P H H6
  replace PR := Lib.hid PR
  go_wp2_with fail
  refine wp_region_near (by kernel_rfl) (by kernel_rfl) ?_
  intro hs
  repeat (go_big_quiet_step ((go_at_call 40; exact Calls.near (by simp) (PR.out _))))
  refine wpQuiet_nil ?_
  clear hs
  intro w6 hb6
  go_wp2_with fail
  go_ret
  exact Ret.mk (congrArg (Value.int .i64) hsum.out) (by repeat (first | with_reducible exact Below.refl _ _ | (with_reducible refine Below.al ?_) | (with_reducible refine Below.drew ?_) | (with_reducible refine Below.set ?_ (by first | (simp; done) | omega | (simp; omega))) | (with_reducible refine Below.thru ?_ (by assumption)) | (with_reducible refine Below.chg ?_ (by assumption) (by first | (simp; done) | omega | (simp; omega)))))
end Go.Proofs.Ytiaefmmcakagpaa.Ord
