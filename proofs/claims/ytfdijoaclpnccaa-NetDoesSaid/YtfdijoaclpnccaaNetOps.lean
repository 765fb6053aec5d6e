/- The walks of the package net: At, Take, Clear, Double. -/
import Derived.Test.YtfdijoaclpnccaaNet
namespace Go.Proofs.Ytfdijoaclpnccaa.Net
set_option linter.unusedSimpArgs false
set_option linter.unusedVariables false
open Go Go.RowKit Go.Proofs.Ytfdijoaclpnccaa Go.Proofs.Ytfdijoaclpnccaa.DelUn
attribute [local irreducible] Calls

def zl : List Value := [.int .i64 0, .int .i64 0, .int .i64 0, .string ByteArray.empty]
set_option maxRecDepth 100000 in
theorem at_bad (d : Nat) (l : List Un) (x : Int) (w : World) (S : Nat → Prop) (h : (netA d l).holds w S) (hb : l.length = 0 ∨ x < 0) :
    Calls Try.prog 20 #[.pointer (some ⟨d, 0, none⟩), .int .i64 x] w (Ret w (.tuple #[zeroU, .bool false])) := by
  have H0 : St w S w [netA d l] := St.start (Sep.one h)
  obtain ⟨SX, hSX⟩ := (H0.skip (.cells #[.int .i64 0, .int .i64 0, .int .i64 0, .string ByteArray.empty] 31)).held 0 rfl
  have H1 := H0.alloc [.int .i64 0, .int .i64 0, .int .i64 0, .string ByteArray.empty] 31
  replace H1 := Lib.hid H1
  clear H0 h
  go_enter Try.func20, Try.ntmps20
  go_wp2_with fail
  refine Calls.mono (place_bad d l x _ SX hSX hb) ?_
  rintro e w1 ⟨rfl, hb1⟩
  obtain ⟨zr, cr, fr⟩ := (H1.out.thru hb1).box 0 rfl
  go_wp2_with fail
  exact bodyPost_ret (v := .tuple #[zeroU, .bool false]) (by simp [results, Try.results20, go_sem, cr, zr, zeroU]; try rfl) rfl (Ret.mk rfl (by repeat (first | with_reducible exact Below.refl _ _ | (with_reducible refine Below.al ?_) | (with_reducible refine Below.drew ?_) | (with_reducible refine Below.set ?_ (by first | (simp; done) | omega | (simp; omega))) | (with_reducible refine Below.thru ?_ (by assumption)) | (with_reducible refine Below.chg ?_ (by assumption) (by first | (simp; done) | omega | (simp; omega))))))
theorem at_none (x : Int) (w : World) : Calls Try.prog 20 #[.pointer none, .int .i64 x] w (Ret w (.tuple #[zeroU, .bool false])) := by
  go_enter Try.func20, Try.ntmps20
  go_wp2_with fail
  refine Calls.mono (place_none x _) ?_
  rintro e w1 ⟨rfl, hb1⟩
  have hr : Box w1 w.heap.size zl := (Box.new zl 31).below hb1
  obtain ⟨zr, cr, fr⟩ := hr
  unfold zl at cr
  go_wp2_with fail
  exact bodyPost_ret (v := .tuple #[zeroU, .bool false]) (by simp [results, Try.results20, go_sem, cr, zr, zeroU]; try rfl) rfl (Ret.mk rfl (by repeat (first | with_reducible exact Below.refl _ _ | (with_reducible refine Below.al ?_) | (with_reducible refine Below.drew ?_) | (with_reducible refine Below.set ?_ (by first | (simp; done) | omega | (simp; omega))) | (with_reducible refine Below.thru ?_ (by assumption)) | (with_reducible refine Below.chg ?_ (by assumption) (by first | (simp; done) | omega | (simp; omega))))))
set_option maxRecDepth 100000 in
theorem at_ok (d : Nat) (l : List Un) (x : Int) (u : Un) (w : World) (S : Nat → Prop) (h : (netA d l).holds w S) (hx : 0 ≤ x) (h0 : 0 < l.length) (hu : l[x.toNat % l.length]? = some u) :
    Calls Try.prog 20 #[.pointer (some ⟨d, 0, none⟩), .int .i64 x] w (Ret w (.tuple #[valU u, .bool true])) := by
  have H0 : St w S w [netA d l] := St.start (Sep.one h)
  obtain ⟨SX, hSX⟩ := (H0.skip (.cells #[.int .i64 0, .int .i64 0, .int .i64 0, .string ByteArray.empty] 31)).held 0 rfl
  have H1 := H0.alloc [.int .i64 0, .int .i64 0, .int .i64 0, .string ByteArray.empty] 31
  have hd0 : d < w.heap.size := by
    obtain ⟨_, HP⟩ := net_parts H0
    exact (HP.box 0 rfl).lt
  obtain ⟨k, hk⟩ : ∃ k, k = x.toNat % l.length := ⟨_, rfl⟩
  have P := place_ok d l x _ SX hSX hx h0
  rw [← hk] at hu P
  obtain ⟨hkl, hku⟩ := List.getElem?_eq_some_iff.1 hu
  replace H1 := Lib.hid H1
  clear H0 h hSX hk hu
  go_enter Try.func20, Try.ntmps20
  go_wp2_with fail
  refine Calls.mono P ?_
  rintro e w1 ⟨rfl, hb1⟩
  have z1 := hb1.size
  simp only [World.size_alloc] at z1
  have n1 : ¬ d = w.heap.size := by omega
  have n2 : ¬ w.heap.size = d := by omega
  obtain ⟨v, H2⟩ := net_parts ((H1.out.thru hb1).front 1 rfl)
  obtain ⟨a, cap, rfl, hn, hl, R⟩ := (H2.row 1 rfl).rd (by omega)
  obtain ⟨b, off, rfl, hb, hc⟩ := Rd.rows enc_len (by omega) R rfl h0
  have e := hc k hkl
  rw [hku] at e
  obtain ⟨u0, u1, u2, u3⟩ := u
  have e0 := e 0 _ rfl
  have e1 := e 1 _ rfl
  have e2 := e 2 _ rfl
  have e3 := e 3 _ rfl
  simp only [Nat.add_zero] at e0 e1 e2 e3
  obtain ⟨z2, k2, f2⟩ := H2.box 0 rfl
  obtain ⟨zr, cr, fr⟩ := H2.box 2 rfl
  clear hc e hku P R hl
  unfold maxLen at hn
  generalize l.length = n at *
  replace H2 := Lib.hid H2
  go_wp2_with fail
  refine bodyPost_ret (v := .tuple #[valU ⟨u0, u1, u2, u3⟩, .bool true]) (by simp [results, Try.results20, go_sem, cr, zr, valU]; try rfl) rfl (Ret.mk rfl (by repeat (first | with_reducible exact Below.refl _ _ | (with_reducible refine Below.al ?_) | (with_reducible refine Below.drew ?_) | (with_reducible refine Below.set ?_ (by first | (simp; done) | omega | (simp; omega))) | (with_reducible refine Below.thru ?_ (by assumption)) | (with_reducible refine Below.chg ?_ (by assumption) (by first | (simp; done) | omega | (simp; omega))))))
end Go.Proofs.Ytfdijoaclpnccaa.Net
