/- The walks of the package net: Clear, Double. -/
import Derived.Test.YtfdijoaclpnccaaNetTake
namespace Go.Proofs.Ytfdijoaclpnccaa.Net
set_option linter.unusedSimpArgs false
set_option linter.unusedVariables false
open Go Go.RowKit Go.Proofs.Ytfdijoaclpnccaa Go.Proofs.Ytfdijoaclpnccaa.DelUn
attribute [local irreducible] Calls

theorem own_clip {w : World} {base size n cap : Nat} {a : Option Addr} {xs : List Value} (h : Own w base size (.slice a n cap) n xs) : Own w base size (.slice a n n) n xs := by
  refine ⟨h.1, ?_⟩
  rcases h.2 with ⟨e, e0⟩ | ⟨g, o, cap', e, hb, hlt, hn, hc, hx, hr⟩
  · left
    injection e with e1 e2 e3
    subst e0 e1
    exact ⟨rfl, rfl⟩
  · right
    injection e with e1 e2 e3
    subst e1 e3
    exact ⟨g, o, n, rfl, hb, hlt, Nat.le_refl _, Nat.le_trans hn hc, hx, fun j hj => hr j (Nat.lt_of_lt_of_le hj (Nat.mul_le_mul_right _ hn))⟩
theorem St.clip {W w : World} {S0 : Nat → Prop} {l : List Asn} {size n cap k : Nat} {a : Option Addr} {xs : List Value} (H : St W S0 w l) (hk : l[k]? = some (rowA size (.slice a n cap) n xs)) :
    St W S0 w (rowA size (.slice a n n) n xs :: l.eraseIdx k) :=
  H.app k hk (own_clip (H.row k hk)) (World.grownBy.refl w _) (by first | exact .inl rfl | (cases a <;> first | exact .inl rfl | exact .inr rfl))

theorem clear_none (w : World) : Calls Try.prog 27 #[.pointer none] w (Ret w (.slice none 0 0)) := by
  go_enter Try.func27, Try.ntmps27
  go_wp2_with fail
  go_ret
  exact Ret.mk rfl (by repeat (first | with_reducible exact Below.refl _ _ | (with_reducible refine Below.al ?_) | (with_reducible refine Below.drew ?_) | (with_reducible refine Below.set ?_ (by first | (simp; done) | omega | (simp; omega))) | (with_reducible refine Below.thru ?_ (by assumption)) | (with_reducible refine Below.chg ?_ (by assumption) (by first | (simp; done) | omega | (simp; omega)))))
set_option maxRecDepth 100000 in
theorem clear_any (d : Nat) (l : List Un) (w : World) (S : Nat → Prop) (h : (netA d l).holds w S) :
    Calls Try.prog 27 #[.pointer (some ⟨d, 0, none⟩)] w (fun e w' => ∃ v, e = .returned v ∧ St w S w' [rowA 4 v l.length (uns l), netA d []]) := by
  obtain ⟨v, H⟩ := net_open h
  obtain ⟨a, cap, rfl, hn, hl, R⟩ := (H.row 1 rfl).rd (by omega)
  have hcap : l.length ≤ cap := by
    rcases (H.row 1 rfl).2 with ⟨e, e0⟩ | ⟨_, _, _, e, _, _, hc, _⟩
    · injection e with e1 e2 e3; omega
    · injection e with e1 e2 e3; omega
  obtain ⟨z, c, f⟩ := H.box 0 rfl
  clear h R hl
  replace H := Lib.hid H
  go_enter Try.func27, Try.ntmps27
  go_wp2_with fail
  refine wp_region_near (by kernel_rfl) (by kernel_rfl) ?_
  intro hs
  repeat (go_big_quiet_step (fail))
  refine wpQuiet_nil ?_
  clear hs
  intro w1 hb1
  have H1 := H.out.thru hb1
  obtain ⟨z1, c1, f1⟩ := H1.box 0 rfl
  replace H1 := Lib.hid H1
  go_wp2_with fail
  go_ret
  have K4 := (((St.clip (k := 1) H1.out rfl).set 1 rfl 0 (.slice none 0 0) (by simp)).row_nil (size := 4)).front 1 rfl
  exact ⟨.slice a l.length l.length, rfl, (net_shut (v := .slice none 0 0) (l := []) (r := [rowA 4 (.slice a l.length l.length) l.length (uns l)]) K4).front 1 rfl⟩

set_option maxRecDepth 100000 in
theorem double_bad (d : Nat) (l : List Un) (x : Int) (w : World) (S : Nat → Prop) (h : (netA d l).holds w S) (hb : l.length = 0 ∨ x < 0) :
    Calls Try.prog 23 #[.pointer (some ⟨d, 0, none⟩), .int .i64 x] w (Ret w (.bool false)) := by
  have P := at_bad d l x w S h hb
  clear h hb
  unfold zeroU at P
  replace P := Lib.hid P
  go_enter Try.func23, Try.ntmps23
  go_wp2_with fail
  refine Calls.mono (P.out) ?_
  rintro e w1 ⟨rfl, hb1⟩
  have z1 := Below.size hb1; try simp only [World.size_alloc, World.size_setCell, World.size_drew] at z1
  go_wp2_with fail
  go_ret
  exact Ret.mk rfl (by repeat (first | with_reducible exact Below.refl _ _ | (with_reducible refine Below.al ?_) | (with_reducible refine Below.drew ?_) | (with_reducible refine Below.set ?_ (by first | (simp; done) | omega | (simp; omega))) | (with_reducible refine Below.thru ?_ (by assumption)) | (with_reducible refine Below.chg ?_ (by assumption) (by first | (simp; done) | omega | (simp; omega)))))
theorem double_none (x : Int) (w : World) : Calls Try.prog 23 #[.pointer none, .int .i64 x] w (Ret w (.bool false)) := by
  have P := at_none x w
  unfold zeroU at P
  replace P := Lib.hid P
  go_enter Try.func23, Try.ntmps23
  go_wp2_with fail
  refine Calls.mono (P.out) ?_
  rintro e w1 ⟨rfl, hb1⟩
  have z1 := Below.size hb1; try simp only [World.size_alloc, World.size_setCell, World.size_drew] at z1
  go_wp2_with fail
  go_ret
  exact Ret.mk rfl (by repeat (first | with_reducible exact Below.refl _ _ | (with_reducible refine Below.al ?_) | (with_reducible refine Below.drew ?_) | (with_reducible refine Below.set ?_ (by first | (simp; done) | omega | (simp; omega))) | (with_reducible refine Below.thru ?_ (by assumption)) | (with_reducible refine Below.chg ?_ (by assumption) (by first | (simp; done) | omega | (simp; omega)))))
set_option maxRecDepth 100000 in
theorem double_ok (d : Nat) (l : List Un) (x : Int) (u : Un) (w : World) (S : Nat → Prop) (h : (netA d l).holds w S) (hx : 0 ≤ x) (h0 : 0 < l.length) (hu : l[x.toNat % l.length]? = some u) :
    Calls Try.prog 23 #[.pointer (some ⟨d, 0, none⟩), .int .i64 x] w (Fin w S (.bool (decide (l.length < 200))) [netA d (if l.length < 200 then l ++ [u] else l)]) := by
  have P := at_ok d l x u w S h hx h0 hu
  have H0 : St w S w [netA d l] := St.start (Sep.one h)
  clear h hu
  have PUT := put_any d l u
  obtain ⟨l', hl'⟩ : ∃ l', l' = if l.length < 200 then l ++ [u] else l := ⟨_, rfl⟩
  obtain ⟨b, hb⟩ : ∃ b, b = decide (l.length < 200) := ⟨_, rfl⟩
  rw [← hl', ← hb] at PUT ⊢
  clear hl' hb
  obtain ⟨u0, u1, u2, u3⟩ := u
  unfold valU at P
  simp only at P
  replace P := Lib.hid P; replace H0 := Lib.hid H0; replace PUT := Lib.hid PUT
  go_enter Try.func23, Try.ntmps23
  go_wp2_with fail
  refine Calls.mono (P.out) ?_
  rintro e w1 ⟨rfl, hb1⟩
  have z1 := Below.size hb1; try simp only [World.size_alloc, World.size_setCell, World.size_drew] at z1
  have H1 := (H0.out.thru hb1).alloc [.int .i64 u0, .int .i64 u1, .int .i64 u2, .string u3] 31
  replace H1 := Lib.hid H1
  go_wp2_with fail
  obtain ⟨S1, hS1, _, hback⟩ := H1.out.at 1 rfl
  refine Calls.mono (PUT.out _ S1 hS1) ?_
  rintro e w2 ⟨rfl, h2⟩
  have H2 := hback w2 _ h2
  clear hback h2 hS1
  replace H2 := Lib.hid H2
  go_wp2_with fail
  go_ret
  exact ⟨rfl, H2.out.drop 1 rfl⟩
end Go.Proofs.Ytfdijoaclpnccaa.Net
