
/- The walks of the package ccid, whatever a control has come to: Trip, Owes; works. -/
import Derived.Test.YtpajedpkdfacoaaCcGood
namespace Go.Proofs.Ytpajedpkdfacoaa.Ccid
set_option linter.unusedSimpArgs false
set_option linter.unusedVariables false
open Go Go.RowKit Go.Shelf Go.Proofs.Ytpajedpkdfacoaa Go.Proofs.Ytpajedpkdfacoaa.Circ
open Go.Proofs.Ytpajedpkdfacoaa.Flight (Un flightA putU putOk timeV OkU newsV newsL hearA leftU lostU newestU)
open Go.Proofs.Ytpajedpkdfacoaa.Heard (Hd heardA gotD)
open Go.Proofs.Ytpajedpkdfacoaa.Avec (Run runs findV eachL)
attribute [local irreducible] Calls

def tripX (x : Cc) : Int := if x.tk then max (x.ts / 8) 1 else 8
theorem trip_st {C : Int} {W w : World} {S : Nat → Prop} {b : Nat} {hd : Hd} {l : List Un} {x : Cc} {r : List Asn} (hx : Fine C x) (H : St W S w (ctlA b hd l x :: r)) : Calls Try.prog 49 #[.pointer (some ⟨b, 0, none⟩)] w (Ret w (.int .i64 (tripX x))) := by
  obtain ⟨p, f, H1⟩ := ctl_parts H
  obtain ⟨z, c, ff⟩ := H1.box 0 rfl
  have P := fun W => Rtt.known_any x.ts x.tv x.tl x.tk W
  have P2 := fun W => Rtt.smooth_any x.ts x.tv x.tl x.tk W hx.ts0 (by have := hx.ts1; omega)
  have h0 := hx.ts0
  have h1 := hx.ts1
  unfold ccV at c
  unfold tripX
  obtain ⟨⟨xs, xt, xc, xk, xm⟩, xrn, xrc, xts, xtv, xtl, xtk, xf, xsi⟩ := x
  simp only at *
  clear H hx
  cases xtk with
  | true =>
    simp only [if_true]
    replace P := Lib.hid P; replace P2 := Lib.hid P2; replace H1 := Lib.hid H1
    go_enter Try.func49, Try.ntmps49
    go_wp2_with fail
    refine Calls.mono (P.out _) ?_
    rintro e w1 ⟨rfl, hb1⟩
    have z1 := Below.size hb1; try simp only [World.size_alloc, World.size_setCell, World.size_drew] at z1
    obtain ⟨c1_0, f1_0⟩ := Below.blk hb1 (b := b) (by first | (simp; done) | omega | (simp; omega))
    have z1_0 : b < w1.heap.size := (by first | (simp; done) | omega | (simp; omega))
    go_wp2_with fail
    refine Calls.mono (P2.out _) ?_
    rintro e w2 ⟨rfl, hb2⟩
    have z2 := Below.size hb2; try simp only [World.size_alloc, World.size_setCell, World.size_drew] at z2
    go_wp2_with fail
    go_ret
    exact Ret.mk rfl (by repeat (first | with_reducible exact Below.refl _ _ | (with_reducible refine Below.al ?_) | (with_reducible refine Below.drew ?_) | (with_reducible refine Below.set ?_ (by first | (simp; done) | omega | (simp; omega))) | (with_reducible refine Below.thru ?_ (by assumption)) | (with_reducible refine Below.chg ?_ (by assumption) (by first | (simp; done) | omega | (simp; omega)))))
  | false =>
    simp only [Bool.false_eq_true, if_false]
    replace P := Lib.hid P; replace P2 := Lib.hid P2; replace H1 := Lib.hid H1
    go_enter Try.func49, Try.ntmps49
    go_wp2_with fail
    refine Calls.mono (P.out _) ?_
    rintro e w1 ⟨rfl, hb1⟩
    have z1 := Below.size hb1; try simp only [World.size_alloc, World.size_setCell, World.size_drew] at z1
    obtain ⟨c1_0, f1_0⟩ := Below.blk hb1 (b := b) (by first | (simp; done) | omega | (simp; omega))
    have z1_0 : b < w1.heap.size := (by first | (simp; done) | omega | (simp; omega))
    go_wp2_with fail
    go_ret
    exact Ret.mk rfl (by repeat (first | with_reducible exact Below.refl _ _ | (with_reducible refine Below.al ?_) | (with_reducible refine Below.drew ?_) | (with_reducible refine Below.set ?_ (by first | (simp; done) | omega | (simp; omega))) | (with_reducible refine Below.thru ?_ (by assumption)) | (with_reducible refine Below.chg ?_ (by assumption) (by first | (simp; done) | omega | (simp; omega)))))
def wantsH (h : Hd) (ratio : Int) : Bool := decide (h.untold ≠ 0) && (decide (min (max ratio 1) 15 ≤ h.untold) || decide (2 ≤ h.ticks))
theorem wants_st {W w : World} {S : Nat → Prop} {p : Nat} {h : Hd} {r : List Asn} (ratio : Int) (H : St W S w (heardA p h :: r)) : Calls Try.prog 88 #[.pointer (some ⟨p, 0, none⟩), .int .i64 ratio] w (Ret w (.bool (wantsH h ratio))) := by
  obtain ⟨g, H1⟩ := Heard.heard_parts H
  obtain ⟨z, c, f⟩ := H1.box 0 rfl
  unfold Heard.hdV at c
  unfold wantsH
  obtain ⟨hn, hc, hu, hti⟩ := h
  simp only at *
  clear H H1
  by_cases h0 : hu = 0
  · subst h0
    rw [decide_eq_false (by simp), Bool.false_and]
    go_enter Try.func88, Try.ntmps88
    go_wp2_with fail
    go_ret
    exact Ret.mk rfl (by repeat (first | with_reducible exact Below.refl _ _ | (with_reducible refine Below.al ?_) | (with_reducible refine Below.drew ?_) | (with_reducible refine Below.set ?_ (by first | (simp; done) | omega | (simp; omega))) | (with_reducible refine Below.thru ?_ (by assumption)) | (with_reducible refine Below.chg ?_ (by assumption) (by first | (simp; done) | omega | (simp; omega)))))
  · have q : (hu == 0) = false := by simpa using h0
    rw [decide_eq_true h0, Bool.true_and]
    by_cases h1 : min (max ratio 1) 15 ≤ hu
    · have q1 : decide (min (max ratio 1) 15 ≤ hu) = true := decide_eq_true h1
      rw [q1, Bool.true_or]
      replace h0 := Lib.hid h0
      go_enter Try.func88, Try.ntmps88
      go_wp2_with fail
      go_ret
      exact Ret.mk rfl (by repeat (first | with_reducible exact Below.refl _ _ | (with_reducible refine Below.al ?_) | (with_reducible refine Below.drew ?_) | (with_reducible refine Below.set ?_ (by first | (simp; done) | omega | (simp; omega))) | (with_reducible refine Below.thru ?_ (by assumption)) | (with_reducible refine Below.chg ?_ (by assumption) (by first | (simp; done) | omega | (simp; omega)))))
    · have q1 : decide (min (max ratio 1) 15 ≤ hu) = false := decide_eq_false h1
      rw [q1, Bool.false_or]
      replace h0 := Lib.hid h0
      go_enter Try.func88, Try.ntmps88
      go_wp2_with fail
      go_ret
      exact Ret.mk rfl (by repeat (first | with_reducible exact Below.refl _ _ | (with_reducible refine Below.al ?_) | (with_reducible refine Below.drew ?_) | (with_reducible refine Below.set ?_ (by first | (simp; done) | omega | (simp; omega))) | (with_reducible refine Below.thru ?_ (by assumption)) | (with_reducible refine Below.chg ?_ (by assumption) (by first | (simp; done) | omega | (simp; omega)))))
theorem owes_st {W w : World} {S : Nat → Prop} {b : Nat} {hd : Hd} {l : List Un} {x : Cc} {r : List Asn} (ratio : Int) (H : St W S w (ctlA b hd l x :: r)) : Calls Try.prog 50 #[.pointer (some ⟨b, 0, none⟩), .int .i64 ratio] w (Ret w (.bool (wantsH hd ratio))) := by
  obtain ⟨p, f, H1⟩ := ctl_parts H
  obtain ⟨z, c, ff⟩ := H1.box 0 rfl
  have P := wants_st ratio (H1.arrN [1, 0] rfl)
  unfold ccV at c
  clear H H1
  replace P := Lib.hid P
  go_enter Try.func50, Try.ntmps50
  go_wp2_with fail
  refine Calls.mono (P.out) ?_
  rintro e w1 ⟨rfl, hb1⟩
  have z1 := Below.size hb1; try simp only [World.size_alloc, World.size_setCell, World.size_drew] at z1
  go_wp2_with fail
  go_ret
  exact Ret.mk rfl (by repeat (first | with_reducible exact Below.refl _ _ | (with_reducible refine Below.al ?_) | (with_reducible refine Below.drew ?_) | (with_reducible refine Below.set ?_ (by first | (simp; done) | omega | (simp; omega))) | (with_reducible refine Below.thru ?_ (by assumption)) | (with_reducible refine Below.chg ?_ (by assumption) (by first | (simp; done) | omega | (simp; omega)))))
end Go.Proofs.Ytpajedpkdfacoaa.Ccid
