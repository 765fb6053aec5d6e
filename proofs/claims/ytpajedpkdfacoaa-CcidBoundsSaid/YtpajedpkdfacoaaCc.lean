
/- The walks of the package ccid, whatever a control has come to: New, Pipe, Window, Room, Ratio, Got, Told, Sent. -/
import Derived.Test.YtpajedpkdfacoaaFlightTakenC
import Derived.Test.YtpajedpkdfacoaaHeardGotD
import Derived.Test.YtpajedpkdfacoaaCwndOpsG
import Derived.Test.YtpajedpkdfacoaaRatioG
import Derived.Test.YtpajedpkdfacoaaRttG
namespace Go.Proofs.Ytpajedpkdfacoaa.Ccid
set_option linter.unusedSimpArgs false
set_option linter.unusedVariables false
open Go Go.RowKit Go.Shelf Go.Proofs.Ytpajedpkdfacoaa Go.Proofs.Ytpajedpkdfacoaa.Circ
open Go.Proofs.Ytpajedpkdfacoaa.Flight (Un flightA putU putOk timeV OkU newsV newsL hearA leftU lostU)
open Go.Proofs.Ytpajedpkdfacoaa.Heard (Hd heardA gotD)
attribute [local irreducible] Calls

/-- A control's own numbers, behind its two pointers. -/
structure Cc where
  w : Cwnd.Win
  rn : Nat
  rc : Int
  ts : Int
  tv : Int
  tl : Nat
  tk : Bool
  fails : Int
  since : Int
def ccV (h f : Nat) (x : Cc) : List Value := [.pointer (some ⟨h, 0, none⟩), .pointer (some ⟨f, 0, none⟩), .int .i64 x.w.s, .int .i64 x.w.t, .int .i64 x.w.c, .bool x.w.k, .int .i64 x.w.m, .int .i64 x.rn, .int .i64 x.rc, .int .i64 x.ts, .int .i64 x.tv, .int .i64 x.tl, .bool x.tk, .int .i64 x.fails, .int .i64 x.since]
theorem ccV_len (h f : Nat) (x : Cc) : (ccV h f x).length = 15 := rfl
def ctlA (b : Nat) (hd : Hd) (l : List Un) (x : Cc) : Asn := exA fun h => exA fun f => sepA [cellA b (ccV h f x), heardA h hd, flightA f l]
theorem ctl_parts {W w : World} {S : Nat → Prop} {b : Nat} {hd : Hd} {l : List Un} {x : Cc} {r : List Asn} (h : St W S w (ctlA b hd l x :: r)) : ∃ p f, St W S w (cellA b (ccV p f x) :: heardA p hd :: flightA f l :: r) := by
  obtain ⟨p, h⟩ := St.unex 0 h rfl
  obtain ⟨f, h⟩ := St.unex 0 h rfl
  exact ⟨p, f, St.unsep 0 h rfl⟩
theorem ctl_shut {W w : World} {S : Nat → Prop} {b p f : Nat} {hd : Hd} {l : List Un} {x : Cc} {r : List Asn} (h : St W S w (cellA b (ccV p f x) :: heardA p hd :: flightA f l :: r)) : St W S w (ctlA b hd l x :: r) :=
  St.ex (fun h => exA fun f => sepA [cellA b (ccV h f x), heardA h hd, flightA f l]) p (St.ex (fun f => sepA [cellA b (ccV p f x), heardA p hd, flightA f l]) f (St.join [_, _, _] r h))
def x0 : Cc := ⟨⟨3, 16, 0, false, 0⟩, 0, 0, 0, 0, 0, false, 0, 0⟩

theorem time_any (now : Int) (w : World) : Calls Try.prog 66 #[.int .i64 now] w (Ret w (.int .i64 (timeV now))) := by
  unfold timeV
  go_enter Try.func66, Try.ntmps66
  go_wp2_with fail
  go_ret
  exact Ret.mk rfl (by repeat (first | with_reducible exact Below.refl _ _ | (with_reducible refine Below.al ?_) | (with_reducible refine Below.drew ?_) | (with_reducible refine Below.set ?_ (by first | (simp; done) | omega | (simp; omega))) | (with_reducible refine Below.thru ?_ (by assumption)) | (with_reducible refine Below.chg ?_ (by assumption) (by first | (simp; done) | omega | (simp; omega)))))
theorem new_any (n : Int) (w : World) : Calls Try.prog 22 #[.int .i64 n] w fun e w' => ∃ b, e = .returned (.pointer (some ⟨b, 0, none⟩)) ∧ St w none0 w' [ctlA b ⟨ofC n, [true], 0, 0⟩ [] x0] := by
  go_enter Try.func22, Try.ntmps22
  go_wp2_with fail
  refine Calls.mono (Heard.new_any n _) ?_
  rintro e w1 ⟨p, rfl, H1⟩
  replace H1 := Lib.hid H1
  go_wp2_with fail
  refine Calls.mono (Flight.new_any _) ?_
  rintro e w2 ⟨f, rfl, H2⟩
  have H3 := Lib.hid (H1.out.add H2)
  clear H1 H2
  go_wp2_with fail
  refine Calls.mono (Cwnd.new_any _) ?_
  rintro e w3 ⟨rfl, hb3⟩
  have H4 := (H3.out.thru hb3).alloc (ccV p f x0) 102
  clear H3
  unfold ccV x0 at H4
  replace H4 := Lib.hid H4
  go_wp2_with fail
  go_ret
  exact ⟨_, rfl, ctl_shut (x := x0) (H4.out.arr [0, 2, 1] rfl)⟩
section
variable {W w : World} {S : Nat → Prop} {b : Nat} {hd : Hd} {l : List Un} {x : Cc} {r : List Asn}
theorem pipe_st (H : St W S w (ctlA b hd l x :: r)) : Calls Try.prog 25 #[.pointer (some ⟨b, 0, none⟩)] w (Ret w (.int .i64 l.length)) := by
  obtain ⟨p, f, H1⟩ := ctl_parts H
  obtain ⟨z, c, ff⟩ := H1.box 0 rfl
  obtain ⟨S1, h1, _, _⟩ := H1.at 2 rfl
  have P := Flight.pipe_any f l w S1 h1
  unfold ccV at c
  clear h1 H1 H
  replace P := Lib.hid P
  go_enter Try.func25, Try.ntmps25
  go_wp2_with fail
  refine Calls.mono (P.out) ?_
  rintro e w1 ⟨rfl, hb1⟩
  have z1 := Below.size hb1; try simp only [World.size_alloc, World.size_setCell, World.size_drew] at z1
  go_wp2_with fail
  go_ret
  exact Ret.mk rfl (by repeat (first | with_reducible exact Below.refl _ _ | (with_reducible refine Below.al ?_) | (with_reducible refine Below.drew ?_) | (with_reducible refine Below.set ?_ (by first | (simp; done) | omega | (simp; omega))) | (with_reducible refine Below.thru ?_ (by assumption)) | (with_reducible refine Below.chg ?_ (by assumption) (by first | (simp; done) | omega | (simp; omega)))))
theorem window_st (hx : x.w.Ok) (H : St W S w (ctlA b hd l x :: r)) : Calls Try.prog 26 #[.pointer (some ⟨b, 0, none⟩)] w (Ret w (.int .i64 x.w.s)) := by
  obtain ⟨p, f, H1⟩ := ctl_parts H
  obtain ⟨z, c, ff⟩ := H1.box 0 rfl
  have P := Cwnd.size_any x.w w
  rw [hx.beg] at P
  unfold ccV at c
  clear H1 H
  replace P := Lib.hid P; replace hx := Lib.hid hx
  go_enter Try.func26, Try.ntmps26
  go_wp2_with fail
  refine Calls.mono (P.out) ?_
  rintro e w1 ⟨rfl, hb1⟩
  have z1 := Below.size hb1; try simp only [World.size_alloc, World.size_setCell, World.size_drew] at z1
  go_wp2_with fail
  go_ret
  exact Ret.mk rfl (by repeat (first | with_reducible exact Below.refl _ _ | (with_reducible refine Below.al ?_) | (with_reducible refine Below.drew ?_) | (with_reducible refine Below.set ?_ (by first | (simp; done) | omega | (simp; omega))) | (with_reducible refine Below.thru ?_ (by assumption)) | (with_reducible refine Below.chg ?_ (by assumption) (by first | (simp; done) | omega | (simp; omega)))))
theorem room_st (hx : x.w.Ok) (H : St W S w (ctlA b hd l x :: r)) : Calls Try.prog 29 #[.pointer (some ⟨b, 0, none⟩)] w (Ret w (.bool (decide ((l.length : Int) < x.w.s)))) := by
  have P1 := pipe_st H
  replace P1 := Lib.hid P1; replace H := Lib.hid H; replace hx := Lib.hid hx
  go_enter Try.func29, Try.ntmps29
  go_wp2_with fail
  refine Calls.mono (P1.out) ?_
  rintro e w1 ⟨rfl, hb1⟩
  have z1 := Below.size hb1; try simp only [World.size_alloc, World.size_setCell, World.size_drew] at z1
  have P2 := window_st hx.out (H.out.thru hb1)
  clear P1
  replace P2 := Lib.hid P2
  go_wp2_with fail
  refine Calls.mono (P2.out) ?_
  rintro e w2 ⟨rfl, hb2⟩
  have z2 := Below.size hb2; try simp only [World.size_alloc, World.size_setCell, World.size_drew] at z2
  go_wp2_with fail
  go_ret
  exact Ret.mk rfl (by repeat (first | with_reducible exact Below.refl _ _ | (with_reducible refine Below.al ?_) | (with_reducible refine Below.drew ?_) | (with_reducible refine Below.set ?_ (by first | (simp; done) | omega | (simp; omega))) | (with_reducible refine Below.thru ?_ (by assumption)) | (with_reducible refine Below.chg ?_ (by assumption) (by first | (simp; done) | omega | (simp; omega)))))
theorem ratio_st (hx : x.rn ≤ 14) (H : St W S w (ctlA b hd l x :: r)) : Calls Try.prog 27 #[.pointer (some ⟨b, 0, none⟩)] w (Ret w (.int .i64 ((x.rn : Int) + 1))) := by
  obtain ⟨p, f, H1⟩ := ctl_parts H
  obtain ⟨z, c, ff⟩ := H1.box 0 rfl
  have P := Ratio.value_any x.rn x.rc w (by omega) (by omega)
  unfold ccV at c
  clear H1 H
  replace P := Lib.hid P; replace hx := Lib.hid hx
  go_enter Try.func27, Try.ntmps27
  go_wp2_with fail
  refine Calls.mono (P.out) ?_
  rintro e w1 ⟨rfl, hb1⟩
  have z1 := Below.size hb1; try simp only [World.size_alloc, World.size_setCell, World.size_drew] at z1
  go_wp2_with fail
  go_ret
  exact Ret.mk rfl (by repeat (first | with_reducible exact Below.refl _ _ | (with_reducible refine Below.al ?_) | (with_reducible refine Below.drew ?_) | (with_reducible refine Below.set ?_ (by first | (simp; done) | omega | (simp; omega))) | (with_reducible refine Below.thru ?_ (by assumption)) | (with_reducible refine Below.chg ?_ (by assumption) (by first | (simp; done) | omega | (simp; omega)))))
end
theorem ear_st {W w : World} {S : Nat → Prop} {b p f : Nat} {x : Cc} {r : List Asn} (H : St W S w (cellA b (ccV p f x) :: r)) : Calls Try.prog 84 #[.pointer (some ⟨b, 0, none⟩)] w (Ret w (.pointer (some ⟨p, 0, none⟩))) := by
  obtain ⟨z, c, ff⟩ := H.box 0 rfl
  unfold ccV at c
  clear H
  go_enter Try.func84, Try.ntmps84
  go_wp2_with fail
  go_ret
  exact Ret.mk rfl (by repeat (first | with_reducible exact Below.refl _ _ | (with_reducible refine Below.al ?_) | (with_reducible refine Below.drew ?_) | (with_reducible refine Below.set ?_ (by first | (simp; done) | omega | (simp; omega))) | (with_reducible refine Below.thru ?_ (by assumption)) | (with_reducible refine Below.chg ?_ (by assumption) (by first | (simp; done) | omega | (simp; omega)))))
theorem got_st {W w : World} {S : Nat → Prop} {b : Nat} {hd : Hd} {l : List Un} {x : Cc} {r : List Asn} (s : Int) (dt : Bool) (hl : hd.came.length ≤ 128) (hu : 0 ≤ hd.untold ∧ hd.untold ≤ 1000000) (H : St W S w (ctlA b hd l x :: r)) :
    Calls Try.prog 48 #[.pointer (some ⟨b, 0, none⟩), .int .i64 s, .bool dt] w (fun e w' => e = .returned (.bool (gotD hd s dt).2) ∧ St W S w' (ctlA b (gotD hd s dt).1 l x :: r)) := by
  obtain ⟨p, f, H1⟩ := ctl_parts H
  have P1 := ear_st H1
  obtain ⟨ok, hok⟩ : ∃ ok, ok = (gotD hd s dt).2 := ⟨_, rfl⟩
  obtain ⟨hd', hd''⟩ : ∃ h, h = (gotD hd s dt).1 := ⟨_, rfl⟩
  have P2 := fun w SX hSX => Heard.gotD_any p hd s dt w SX hSX hl hu
  rw [← hok, ← hd'']
  simp only [← hok, ← hd''] at P2
  clear H
  replace P1 := Lib.hid P1; replace P2 := Lib.hid P2; replace H1 := Lib.hid H1; replace hok := Lib.hid hok; replace hd'' := Lib.hid hd''
  go_enter Try.func48, Try.ntmps48
  go_wp2_with fail
  refine Calls.mono (P1.out) ?_
  rintro e w1 ⟨rfl, hb1⟩
  have z1 := Below.size hb1; try simp only [World.size_alloc, World.size_setCell, World.size_drew] at z1
  have H2 := H1.out.thru hb1
  obtain ⟨S1, h1, _, c1⟩ := (H2.arrN [1, 0] rfl).at 0 rfl
  have P3 := P2.out _ S1 h1
  clear P1 P2 H1 h1
  replace P3 := Lib.hid P3; replace c1 := Lib.hid c1
  go_wp2_with fail
  refine Calls.mono P3.out ?_
  rintro e w3 ⟨rfl, h3⟩
  have H3 := Lib.hid (c1.out _ _ h3)
  clear P3
  go_wp2_with fail
  go_ret
  exact ⟨rfl, ctl_shut (p := p) (f := f) (H3.out.arrN [1, 0] rfl)⟩
def toldH (h : Hd) : Hd := ⟨h.newest, h.came, 0, 0⟩
theorem htold_st {W w : World} {S : Nat → Prop} {p : Nat} {h : Hd} {r : List Asn} (H : St W S w (heardA p h :: r)) :
    Calls Try.prog 111 #[.pointer (some ⟨p, 0, none⟩)] w (fun e w' => e = .returned (.tuple #[]) ∧ St W S w' (heardA p (toldH h) :: r)) := by
  obtain ⟨g, H1⟩ := Heard.heard_parts H
  obtain ⟨z, c, f⟩ := H1.box 0 rfl
  unfold Heard.hdV at c H1
  have H2 := (H1.set 0 rfl 2 (.int .i64 0) (by simp)).set 0 rfl 3 (.int .i64 0) (by simp)
  clear H H1
  replace H2 := Lib.hid H2
  go_enter Try.func111, Try.ntmps111
  go_wp2_with fail
  go_end0
  exact ⟨rfl, Heard.heard_shut (h := toldH h) H2.out⟩
theorem told_st {W w : World} {S : Nat → Prop} {b : Nat} {hd : Hd} {l : List Un} {x : Cc} {r : List Asn} (H : St W S w (ctlA b hd l x :: r)) :
    Calls Try.prog 59 #[.pointer (some ⟨b, 0, none⟩)] w (fun e w' => e = .returned (.tuple #[]) ∧ St W S w' (ctlA b (toldH hd) l x :: r)) := by
  obtain ⟨p, f, H1⟩ := ctl_parts H
  have P1 := ear_st H1
  clear H
  replace P1 := Lib.hid P1; replace H1 := Lib.hid H1
  go_enter Try.func59, Try.ntmps59
  go_wp2_with fail
  refine Calls.mono (P1.out) ?_
  rintro e w1 ⟨rfl, hb1⟩
  have z1 := Below.size hb1; try simp only [World.size_alloc, World.size_setCell, World.size_drew] at z1
  have H2 := (H1.out.thru hb1).arrN [1, 0] rfl
  have P3 := htold_st H2
  clear P1 H1 H2
  replace P3 := Lib.hid P3
  go_wp2_with fail
  refine Calls.mono P3.out ?_
  rintro e w3 ⟨rfl, H3⟩
  clear P3
  replace H3 := Lib.hid H3
  go_wp2_with fail
  go_end0
  exact ⟨rfl, ctl_shut (p := p) (f := f) (H3.out.arrN [1, 0] rfl)⟩
theorem put_st {W w : World} {S : Nat → Prop} {r : List Asn} {f : Nat} {l : List Un} (seq now : Int) (hl : l.length ≤ 64) (H : St W S w (flightA f l :: r)) :
    Calls Try.prog 83 #[.pointer (some ⟨f, 0, none⟩), .int .i64 seq, .int .i64 now] w (fun e w' => ∃ b, e = .returned (.bool (putOk l)) ∧ St W S w' (flightA f (putU l b seq now) :: r)) := by
  obtain ⟨S1, h1, _, c⟩ := H.at 0 rfl
  exact (Flight.put_any f l seq now (by omega) w S1 h1).mono fun e w' ⟨b, he, h2⟩ => ⟨b, he, c _ _ h2⟩
/-- What is sent, as far as there is room. -/
def sentX (l : List Un) (x : Cc) (now : Int) : Cc := if (l.length : Int) < x.w.s ∧ l.length = 0 then { x with since := timeV now } else x
def sentL (l : List Un) (x : Cc) (u : Nat) (seq now : Int) : List Un := if (l.length : Int) < x.w.s then putU l u seq now else l
set_option maxRecDepth 100000 in
theorem sent_st {W w : World} {S : Nat → Prop} {b : Nat} {hd : Hd} {l : List Un} {x : Cc} {r : List Asn} (seq now : Int) (hx : x.w.Ok) (H : St W S w (ctlA b hd l x :: r)) :
    Calls Try.prog 47 #[.pointer (some ⟨b, 0, none⟩), .int .i64 seq, .int .i64 now] w (fun e w' => ∃ u, e = .returned (.bool (decide ((l.length : Int) < x.w.s))) ∧ St W S w' (ctlA b hd (sentL l x u seq now) (sentX l x now) :: r)) := by
  have P1 := room_st hx H
  have hs16 : x.w.s ≤ 16 := hx.2.1
  unfold sentX sentL
  by_cases h3 : (l.length : Int) < x.w.s
  · rw [decide_eq_true h3] at P1
    have hok : putOk l = true := decide_eq_true (by omega)
    simp only [if_pos h3, decide_eq_true h3]
    have hl64 : l.length ≤ 64 := by omega
    by_cases h0 : l.length = 0
    · have k0 : ((l.length : Int) == 0) = true := by rw [h0]; rfl
      rw [if_pos ⟨h3, h0⟩]
      clear h0 hx hs16 h3
      replace P1 := Lib.hid P1; replace H := Lib.hid H; replace hok := Lib.hid hok; replace hl64 := Lib.hid hl64
      go_enter Try.func47, Try.ntmps47
      go_wp2_with fail
      refine Calls.mono (P1.out) ?_
      rintro e w1 ⟨rfl, hb1⟩
      have z1 := Below.size hb1; try simp only [World.size_alloc, World.size_setCell, World.size_drew] at z1
      have H1 := H.out.thru hb1
      have P2 := pipe_st H1
      clear P1
      replace P2 := Lib.hid P2; replace H1 := Lib.hid H1
      go_wp2_with fail
      refine Calls.mono (P2.out) ?_
      rintro e w2 ⟨rfl, hb2⟩
      have z2 := Below.size hb2; try simp only [World.size_alloc, World.size_setCell, World.size_drew] at z2
      have H2 := H1.out.thru hb2
      obtain ⟨p, f, H3⟩ := ctl_parts H2
      clear P2 H1 H2
      replace H3 := Lib.hid H3
      go_wp2_with fail
      refine Calls.mono (time_any now _) ?_
      rintro e w3 ⟨rfl, hb3⟩
      have z3 := Below.size hb3; try simp only [World.size_alloc, World.size_setCell, World.size_drew] at z3
      have H4 := H3.out.thru hb3
      obtain ⟨z4, c4, f4⟩ := H4.box 0 rfl
      unfold ccV at c4
      have H5 := H4.set 0 rfl 14 (.int .i64 (timeV now)) (by simp [ccV])
      have P5 := put_st seq now hl64.out (H5.arrN [2, 0, 1] rfl)
      rw [hok.out] at P5
      clear H3
      replace H4 := Lib.hid H4; replace H5 := Lib.hid H5; replace P5 := Lib.hid P5
      go_wp2_with fail
      refine Calls.mono P5.out ?_
      rintro e w6 ⟨u, rfl, H6⟩
      clear P5
      replace H6 := Lib.hid H6
      go_wp2_with fail
      go_ret
      exact ⟨u, rfl, ctl_shut (p := p) (f := f) (x := { x with since := timeV now }) (H6.out.arrN [1, 2, 0] rfl)⟩
    · have k0 : ((l.length : Int) == 0) = false := by rw [beq_eq_false_iff_ne]; omega
      rw [if_neg (fun h => h0 h.2)]
      clear hx hs16 h3
      replace P1 := Lib.hid P1; replace H := Lib.hid H; replace hok := Lib.hid hok; replace h0 := Lib.hid h0; replace hl64 := Lib.hid hl64
      go_enter Try.func47, Try.ntmps47
      go_wp2_with fail
      refine Calls.mono (P1.out) ?_
      rintro e w1 ⟨rfl, hb1⟩
      have z1 := Below.size hb1; try simp only [World.size_alloc, World.size_setCell, World.size_drew] at z1
      have H1 := H.out.thru hb1
      have P2 := pipe_st H1
      clear P1
      replace P2 := Lib.hid P2; replace H1 := Lib.hid H1
      go_wp2_with fail
      refine Calls.mono (P2.out) ?_
      rintro e w2 ⟨rfl, hb2⟩
      have z2 := Below.size hb2; try simp only [World.size_alloc, World.size_setCell, World.size_drew] at z2
      have H2 := H1.out.thru hb2
      obtain ⟨p, f, H3⟩ := ctl_parts H2
      obtain ⟨z4, c4, f4⟩ := H3.box 0 rfl
      unfold ccV at c4
      have P5 := put_st seq now hl64.out (H3.arrN [2, 0, 1] rfl)
      rw [hok.out] at P5
      clear P2 H1 H2
      replace H3 := Lib.hid H3; replace P5 := Lib.hid P5
      go_wp2_with fail
      refine Calls.mono P5.out ?_
      rintro e w6 ⟨u, rfl, H6⟩
      clear P5
      replace H6 := Lib.hid H6
      go_wp2_with fail
      go_ret
      exact ⟨u, rfl, ctl_shut (p := p) (f := f) (x := x) (H6.out.arrN [1, 2, 0] rfl)⟩
  · rw [decide_eq_false h3] at P1
    simp only [if_neg h3, decide_eq_false h3]
    rw [if_neg (fun h => h3 h.1)]
    replace P1 := Lib.hid P1; replace H := Lib.hid H; replace h3 := Lib.hid h3; replace hx := Lib.hid hx
    go_enter Try.func47, Try.ntmps47
    go_wp2_with fail
    refine Calls.mono (P1.out) ?_
    rintro e w1 ⟨rfl, hb1⟩
    have z1 := Below.size hb1; try simp only [World.size_alloc, World.size_setCell, World.size_drew] at z1
    have H1 := Lib.hid (H.out.thru hb1)
    go_wp2_with fail
    go_ret
    exact ⟨0, rfl, H1.out⟩
end Go.Proofs.Ytpajedpkdfacoaa.Ccid
