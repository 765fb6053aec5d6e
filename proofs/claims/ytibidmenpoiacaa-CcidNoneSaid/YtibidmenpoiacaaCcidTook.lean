/- The walks of the package ccid: Sent, Got, Owes, Took, as far as works goes. -/
import Derived.Test.YtibidmenpoiacaaCcid
namespace Go.Proofs.Ytibidmenpoiacaa.Ccid
set_option linter.unusedSimpArgs false
set_option linter.unusedVariables false
open Go Go.RowKit Go.Shelf Go.Proofs.Ytibidmenpoiacaa Go.Proofs.Ytibidmenpoiacaa.Circ
open Go.Proofs.Ytibidmenpoiacaa.Flight (Un flightA putU putOk timeV OkU newsV newsL hearA leftU lostU)
open Go.Proofs.Ytibidmenpoiacaa.Heard (Hd heardA gotH)
open Go.Proofs.Ytibidmenpoiacaa.Avec (Run runs findV eachL)
attribute [local irreducible] Calls

theorem put_st {W w : World} {S : Nat → Prop} {r : List Asn} {f : Nat} {l : List Un} (seq now : Int) (hl : l.length ≤ 64) (H : St W S w (flightA f l :: r)) :
    Calls Try.prog 27 #[.pointer (some ⟨f, 0, none⟩), .int .i64 seq, .int .i64 now] w (fun e w' => ∃ b, e = .returned (.bool (putOk l)) ∧ St W S w' (flightA f (putU l b seq now) :: r)) := by
  obtain ⟨S1, h1, _, c⟩ := H.at 0 rfl
  exact (Flight.put_any f l seq now (by omega) w S1 h1).mono fun e w' ⟨b, he, h2⟩ => ⟨b, he, c _ _ h2⟩
/-- What is sent at time 0, in a window of three. -/
theorem sent_st {W w : World} {S : Nat → Prop} {b : Nat} {hd : Hd} {l : List Un} {r : List Asn} (seq : Int) (H : St W S w (ctlA b hd l x0 :: r)) :
    Calls Try.prog 11 #[.pointer (some ⟨b, 0, none⟩), .int .i64 seq, .int .i64 0] w (fun e w' => ∃ u, e = .returned (.bool (decide ((l.length : Int) < 3))) ∧ St W S w' (ctlA b hd (if (l.length : Int) < 3 then putU l u seq 0 else l) x0 :: r)) := by
  have P1 := room_st (by decide) H
  rw [show x0.s = 3 from rfl] at P1
  by_cases h3 : (l.length : Int) < 3
  · rw [decide_eq_true h3] at P1
    have hok : putOk l = true := decide_eq_true (by omega)
    simp only [if_pos h3, decide_eq_true h3]
    by_cases h0 : l.length = 0
    · have k0 : ((l.length : Int) == 0) = true := by rw [h0]; rfl
      have h0n : l = [] := List.eq_nil_of_length_eq_zero h0
      clear h0
      replace P1 := Lib.hid P1; replace H := Lib.hid H; replace h3 := Lib.hid h3; replace h0n := Lib.hid h0n; replace hok := Lib.hid hok
      go_enter Try.func11, Try.ntmps11
      go_wp2_with fail
      refine Calls.mono (P1.out) ?_
      rintro e w1 ⟨rfl, hb1⟩
      have z1 := Below.size hb1; try simp only [World.size_alloc, World.size_setCell, World.size_drew] at z1
      have H1 := H.out.thru hb1
      have P2 := pipe_st H1
      clear P1
      replace P2 := Lib.hid P2; replace H1 := Lib.hid H1
      go_wp2_with fail
      refine Calls.mono (P2.out) ?_
      rintro e w2 ⟨rfl, hb2⟩
      have z2 := Below.size hb2; try simp only [World.size_alloc, World.size_setCell, World.size_drew] at z2
      have H2 := H1.out.thru hb2
      obtain ⟨p, f, H3⟩ := ctl_parts H2
      clear P2 H1 H2
      replace H3 := Lib.hid H3
      go_wp2_with fail
      refine Calls.mono (time_any 0 _) ?_
      rintro e w3 ⟨rfl, hb3⟩
      have z3 := Below.size hb3; try simp only [World.size_alloc, World.size_setCell, World.size_drew] at z3
      have H4 := H3.out.thru hb3
      obtain ⟨z4, c4, f4⟩ := H4.box 0 rfl
      unfold ccV x0 at c4
      have H5 := H4.set 0 rfl 14 (.int .i64 (timeV 0)) (by simp [ccV])
      have P5 := put_st seq 0 (by have := h3.out; omega) (H5.arrN [2, 0, 1] rfl)
      rw [hok.out] at P5
      clear H3
      replace H4 := Lib.hid H4; replace H5 := Lib.hid H5; replace P5 := Lib.hid P5
      go_wp2_with fail
      refine Calls.mono P5.out ?_
      rintro e w6 ⟨u, rfl, H6⟩
      clear P5
      replace H6 := Lib.hid H6
      go_wp2_with fail
      go_ret
      exact ⟨u, rfl, ctl_shut (p := p) (f := f) (x := x0) (H6.out.arrN [1, 2, 0] rfl)⟩
    · have k0 : ((l.length : Int) == 0) = false := by rw [beq_eq_false_iff_ne]; omega
      replace P1 := Lib.hid P1; replace H := Lib.hid H; replace h3 := Lib.hid h3; replace hok := Lib.hid hok; replace h0 := Lib.hid h0
      go_enter Try.func11, Try.ntmps11
      go_wp2_with fail
      refine Calls.mono (P1.out) ?_
      rintro e w1 ⟨rfl, hb1⟩
      have z1 := Below.size hb1; try simp only [World.size_alloc, World.size_setCell, World.size_drew] at z1
      have H1 := H.out.thru hb1
      have P2 := pipe_st H1
      clear P1
      replace P2 := Lib.hid P2; replace H1 := Lib.hid H1
      go_wp2_with fail
      refine Calls.mono (P2.out) ?_
      rintro e w2 ⟨rfl, hb2⟩
      have z2 := Below.size hb2; try simp only [World.size_alloc, World.size_setCell, World.size_drew] at z2
      have H2 := H1.out.thru hb2
      obtain ⟨p, f, H3⟩ := ctl_parts H2
      obtain ⟨z4, c4, f4⟩ := H3.box 0 rfl
      unfold ccV x0 at c4
      have P5 := put_st seq 0 (by have := h3.out; omega) (H3.arrN [2, 0, 1] rfl)
      rw [hok.out] at P5
      clear P2 H1 H2
      replace H3 := Lib.hid H3; replace P5 := Lib.hid P5
      go_wp2_with fail
      refine Calls.mono P5.out ?_
      rintro e w6 ⟨u, rfl, H6⟩
      clear P5
      replace H6 := Lib.hid H6
      go_wp2_with fail
      go_ret
      exact ⟨u, rfl, ctl_shut (p := p) (f := f) (x := x0) (H6.out.arrN [1, 2, 0] rfl)⟩
  · rw [decide_eq_false h3] at P1
    simp only [if_neg h3, decide_eq_false h3]
    replace P1 := Lib.hid P1; replace H := Lib.hid H; replace h3 := Lib.hid h3
    go_enter Try.func11, Try.ntmps11
    go_wp2_with fail
    refine Calls.mono (P1.out) ?_
    rintro e w1 ⟨rfl, hb1⟩
    have z1 := Below.size hb1; try simp only [World.size_alloc, World.size_setCell, World.size_drew] at z1
    have H1 := Lib.hid (H.out.thru hb1)
    go_wp2_with fail
    go_ret
    exact ⟨0, rfl, H1.out⟩
theorem ear_st {W w : World} {S : Nat → Prop} {b p f : Nat} {x : Cc} {r : List Asn} (H : St W S w (cellA b (ccV p f x) :: r)) : Calls Try.prog 20 #[.pointer (some ⟨b, 0, none⟩)] w (Ret w (.pointer (some ⟨p, 0, none⟩))) := by
  obtain ⟨z, c, ff⟩ := H.box 0 rfl
  unfold ccV at c
  clear H
  go_enter Try.func20, Try.ntmps20
  go_wp2_with fail
  go_ret
  exact Ret.mk rfl (by repeat (first | with_reducible exact Below.refl _ _ | (with_reducible refine Below.al ?_) | (with_reducible refine Below.drew ?_) | (with_reducible refine Below.set ?_ (by first | (simp; done) | omega | (simp; omega))) | (with_reducible refine Below.thru ?_ (by assumption)) | (with_reducible refine Below.chg ?_ (by assumption) (by first | (simp; done) | omega | (simp; omega)))))
theorem got_st {W w : World} {S : Nat → Prop} {b : Nat} {hd : Hd} {l : List Un} {x : Cc} {r : List Asn} (s : Int) (hl : hd.came.length ≤ 128) (hu : 0 ≤ hd.untold ∧ hd.untold ≤ 1000000) (H : St W S w (ctlA b hd l x :: r)) :
    Calls Try.prog 6 #[.pointer (some ⟨b, 0, none⟩), .int .i64 s, .bool true] w (fun e w' => e = .returned (.bool (gotH hd s).2) ∧ St W S w' (ctlA b (gotH hd s).1 l x :: r)) := by
  obtain ⟨p, f, H1⟩ := ctl_parts H
  have P1 := ear_st H1
  obtain ⟨ok, hok⟩ : ∃ ok, ok = (gotH hd s).2 := ⟨_, rfl⟩
  obtain ⟨hd', hd''⟩ : ∃ h, h = (gotH hd s).1 := ⟨_, rfl⟩
  have P2 := fun w SX hSX => Heard.got_any p hd s w SX hSX hl hu
  rw [← hok, ← hd'']
  simp only [← hok, ← hd''] at P2
  clear H
  replace P1 := Lib.hid P1; replace P2 := Lib.hid P2; replace H1 := Lib.hid H1; replace hok := Lib.hid hok; replace hd'' := Lib.hid hd''
  go_enter Try.func6, Try.ntmps6
  go_wp2_with fail
  refine Calls.mono (P1.out) ?_
  rintro e w1 ⟨rfl, hb1⟩
  have z1 := Below.size hb1; try simp only [World.size_alloc, World.size_setCell, World.size_drew] at z1
  have H2 := H1.out.thru hb1
  obtain ⟨S1, h1, _, c1⟩ := (H2.arrN [1, 0] rfl).at 0 rfl
  have P3 := P2.out _ S1 h1
  clear P1 P2 H1 h1
  replace P3 := Lib.hid P3; replace c1 := Lib.hid c1
  go_wp2_with fail
  refine Calls.mono P3.out ?_
  rintro e w3 ⟨rfl, h3⟩
  have H3 := Lib.hid (c1.out _ _ h3)
  clear P3
  go_wp2_with fail
  go_ret
  exact ⟨rfl, ctl_shut (p := p) (f := f) (H3.out.arrN [1, 0] rfl)⟩
end Go.Proofs.Ytibidmenpoiacaa.Ccid
