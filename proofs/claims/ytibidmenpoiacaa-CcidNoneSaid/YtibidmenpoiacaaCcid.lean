/- The walks of the package ccid, as far as works goes. -/
import Derived.Test.YtibidmenpoiacaaFlightTakenC
import Derived.Test.YtibidmenpoiacaaHeardGotF
import Derived.Test.YtibidmenpoiacaaCwndOpsF
import Derived.Test.YtibidmenpoiacaaRatioF
import Derived.Test.YtibidmenpoiacaaRttF
namespace Go.Proofs.Ytibidmenpoiacaa.Ccid
set_option linter.unusedSimpArgs false
set_option linter.unusedVariables false
open Go Go.RowKit Go.Shelf Go.Proofs.Ytibidmenpoiacaa Go.Proofs.Ytibidmenpoiacaa.Circ
open Go.Proofs.Ytibidmenpoiacaa.Flight (Un flightA putU putOk timeV)
open Go.Proofs.Ytibidmenpoiacaa.Heard (Hd heardA)
attribute [local irreducible] Calls

/-- A control's own numbers, behind its two pointers. -/
structure Cc where
  s : Int
  rn : Int
  ts : Int
  tv : Int
  tk : Bool
  since : Int
def ccV (h f : Nat) (x : Cc) : List Value := [.pointer (some ⟨h, 0, none⟩), .pointer (some ⟨f, 0, none⟩), .int .i64 x.s, .int .i64 16, .int .i64 0, .bool false, .int .i64 0, .int .i64 x.rn, .int .i64 0, .int .i64 x.ts, .int .i64 x.tv, .int .i64 0, .bool x.tk, .int .i64 0, .int .i64 x.since]
def ctlA (b : Nat) (hd : Hd) (l : List Un) (x : Cc) : Asn := exA fun h => exA fun f => sepA [cellA b (ccV h f x), heardA h hd, flightA f l]
theorem ctl_parts {W w : World} {S : Nat → Prop} {b : Nat} {hd : Hd} {l : List Un} {x : Cc} {r : List Asn} (h : St W S w (ctlA b hd l x :: r)) : ∃ p f, St W S w (cellA b (ccV p f x) :: heardA p hd :: flightA f l :: r) := by
  obtain ⟨p, h⟩ := St.unex 0 h rfl
  obtain ⟨f, h⟩ := St.unex 0 h rfl
  exact ⟨p, f, St.unsep 0 h rfl⟩
theorem ctl_shut {W w : World} {S : Nat → Prop} {b p f : Nat} {hd : Hd} {l : List Un} {x : Cc} {r : List Asn} (h : St W S w (cellA b (ccV p f x) :: heardA p hd :: flightA f l :: r)) : St W S w (ctlA b hd l x :: r) :=
  St.ex (fun h => exA fun f => sepA [cellA b (ccV h f x), heardA h hd, flightA f l]) p (St.ex (fun f => sepA [cellA b (ccV p f x), heardA p hd, flightA f l]) f (St.join [_, _, _] r h))
def x0 : Cc := ⟨3, 0, 0, 0, false, 0⟩
def x1 : Cc := ⟨6, 1, 32, 8, true, 4⟩

theorem time_any (now : Int) (w : World) : Calls Try.prog 26 #[.int .i64 now] w (Ret w (.int .i64 (timeV now))) := by
  unfold timeV
  go_enter Try.func26, Try.ntmps26
  go_wp2_with fail
  go_ret
  exact Ret.mk rfl (by repeat (first | with_reducible exact Below.refl _ _ | (with_reducible refine Below.al ?_) | (with_reducible refine Below.drew ?_) | (with_reducible refine Below.set ?_ (by first | (simp; done) | omega | (simp; omega))) | (with_reducible refine Below.thru ?_ (by assumption)) | (with_reducible refine Below.chg ?_ (by assumption) (by first | (simp; done) | omega | (simp; omega)))))
theorem new_any (n : Int) (w : World) : Calls Try.prog 19 #[.int .i64 n] w fun e w' => ∃ b, e = .returned (.pointer (some ⟨b, 0, none⟩)) ∧ St w none0 w' [ctlA b ⟨ofC n, [true], 0, 0⟩ [] x0] := by
  go_enter Try.func19, Try.ntmps19
  go_wp2_with fail
  refine Calls.mono (Heard.new_any n _) ?_
  rintro e w1 ⟨p, rfl, H1⟩
  replace H1 := Lib.hid H1
  go_wp2_with fail
  refine Calls.mono (Flight.new_any _) ?_
  rintro e w2 ⟨f, rfl, H2⟩
  have H3 := Lib.hid (H1.out.add H2)
  clear H1 H2
  go_wp2_with fail
  refine Calls.mono (Cwnd.new_any _) ?_
  rintro e w3 ⟨rfl, hb3⟩
  have H4 := (H3.out.thru hb3).alloc (ccV p f x0) 47
  clear H3
  unfold ccV x0 at H4
  replace H4 := Lib.hid H4
  go_wp2_with fail
  go_ret
  exact ⟨_, rfl, ctl_shut (x := x0) (H4.out.arr [0, 2, 1] rfl)⟩
section
variable {W w : World} {S : Nat → Prop} {b : Nat} {hd : Hd} {l : List Un} {x : Cc} {r : List Asn}
theorem pipe_st (H : St W S w (ctlA b hd l x :: r)) : Calls Try.prog 15 #[.pointer (some ⟨b, 0, none⟩)] w (Ret w (.int .i64 l.length)) := by
  obtain ⟨p, f, H1⟩ := ctl_parts H
  obtain ⟨z, c, ff⟩ := H1.box 0 rfl
  obtain ⟨S1, h1, _, _⟩ := H1.at 2 rfl
  have P := Flight.pipe_any f l w S1 h1
  unfold ccV at c
  clear h1 H1 H
  replace P := Lib.hid P
  go_enter Try.func15, Try.ntmps15
  go_wp2_with fail
  refine Calls.mono (P.out) ?_
  rintro e w1 ⟨rfl, hb1⟩
  have z1 := Below.size hb1; try simp only [World.size_alloc, World.size_setCell, World.size_drew] at z1
  go_wp2_with fail
  go_ret
  exact Ret.mk rfl (by repeat (first | with_reducible exact Below.refl _ _ | (with_reducible refine Below.al ?_) | (with_reducible refine Below.drew ?_) | (with_reducible refine Below.set ?_ (by first | (simp; done) | omega | (simp; omega))) | (with_reducible refine Below.thru ?_ (by assumption)) | (with_reducible refine Below.chg ?_ (by assumption) (by first | (simp; done) | omega | (simp; omega)))))
theorem window_st (hx : 1 ≤ x.s) (H : St W S w (ctlA b hd l x :: r)) : Calls Try.prog 14 #[.pointer (some ⟨b, 0, none⟩)] w (Ret w (.int .i64 x.s)) := by
  obtain ⟨p, f, H1⟩ := ctl_parts H
  obtain ⟨z, c, ff⟩ := H1.box 0 rfl
  have P := Cwnd.size_any ⟨x.s, 16, 0, false, 0⟩ w
  rw [show (Cwnd.Win.beg ⟨x.s, 16, 0, false, 0⟩).s = x.s by unfold Cwnd.Win.beg; rw [if_neg (by simp only; omega)]] at P
  unfold ccV at c
  clear H1 H
  replace P := Lib.hid P
  go_enter Try.func14, Try.ntmps14
  go_wp2_with fail
  refine Calls.mono (P.out) ?_
  rintro e w1 ⟨rfl, hb1⟩
  have z1 := Below.size hb1; try simp only [World.size_alloc, World.size_setCell, World.size_drew] at z1
  go_wp2_with fail
  go_ret
  exact Ret.mk rfl (by repeat (first | with_reducible exact Below.refl _ _ | (with_reducible refine Below.al ?_) | (with_reducible refine Below.drew ?_) | (with_reducible refine Below.set ?_ (by first | (simp; done) | omega | (simp; omega))) | (with_reducible refine Below.thru ?_ (by assumption)) | (with_reducible refine Below.chg ?_ (by assumption) (by first | (simp; done) | omega | (simp; omega)))))
theorem room_st (hx : 1 ≤ x.s) (H : St W S w (ctlA b hd l x :: r)) : Calls Try.prog 10 #[.pointer (some ⟨b, 0, none⟩)] w (Ret w (.bool (decide ((l.length : Int) < x.s)))) := by
  have P1 := pipe_st H
  replace P1 := Lib.hid P1; replace H := Lib.hid H
  go_enter Try.func10, Try.ntmps10
  go_wp2_with fail
  refine Calls.mono (P1.out) ?_
  rintro e w1 ⟨rfl, hb1⟩
  have z1 := Below.size hb1; try simp only [World.size_alloc, World.size_setCell, World.size_drew] at z1
  have P2 := window_st hx (H.out.thru hb1)
  clear P1
  replace P2 := Lib.hid P2
  go_wp2_with fail
  refine Calls.mono (P2.out) ?_
  rintro e w2 ⟨rfl, hb2⟩
  have z2 := Below.size hb2; try simp only [World.size_alloc, World.size_setCell, World.size_drew] at z2
  go_wp2_with fail
  go_ret
  exact Ret.mk rfl (by repeat (first | with_reducible exact Below.refl _ _ | (with_reducible refine Below.al ?_) | (with_reducible refine Below.drew ?_) | (with_reducible refine Below.set ?_ (by first | (simp; done) | omega | (simp; omega))) | (with_reducible refine Below.thru ?_ (by assumption)) | (with_reducible refine Below.chg ?_ (by assumption) (by first | (simp; done) | omega | (simp; omega)))))
theorem trip_st (hx : x.tk = false) (H : St W S w (ctlA b hd l x :: r)) : Calls Try.prog 16 #[.pointer (some ⟨b, 0, none⟩)] w (Ret w (.int .i64 8)) := by
  obtain ⟨p, f, H1⟩ := ctl_parts H
  obtain ⟨z, c, ff⟩ := H1.box 0 rfl
  have P := Rtt.known_any x.ts x.tv 0 x.tk w
  unfold ccV at c
  rw [hx] at P c
  clear H1 H hx
  replace P := Lib.hid P
  go_enter Try.func16, Try.ntmps16
  go_wp2_with fail
  refine Calls.mono (P.out) ?_
  rintro e w1 ⟨rfl, hb1⟩
  have z1 := Below.size hb1; try simp only [World.size_alloc, World.size_setCell, World.size_drew] at z1
  go_wp2_with fail
  go_ret
  exact Ret.mk rfl (by repeat (first | with_reducible exact Below.refl _ _ | (with_reducible refine Below.al ?_) | (with_reducible refine Below.drew ?_) | (with_reducible refine Below.set ?_ (by first | (simp; done) | omega | (simp; omega))) | (with_reducible refine Below.thru ?_ (by assumption)) | (with_reducible refine Below.chg ?_ (by assumption) (by first | (simp; done) | omega | (simp; omega)))))
end
end Go.Proofs.Ytibidmenpoiacaa.Ccid
