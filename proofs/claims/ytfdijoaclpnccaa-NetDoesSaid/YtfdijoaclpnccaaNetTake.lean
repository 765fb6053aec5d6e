/- The walks of the package net: Take, Clear, Double. -/
import Derived.Test.YtfdijoaclpnccaaNetOps
namespace Go.Proofs.Ytfdijoaclpnccaa.Net
set_option linter.unusedSimpArgs false
set_option linter.unusedVariables false
open Go Go.RowKit Go.Proofs.Ytfdijoaclpnccaa Go.Proofs.Ytfdijoaclpnccaa.DelUn
attribute [local irreducible] Calls

set_option maxRecDepth 100000 in
theorem take_bad (d : Nat) (l : List Un) (x : Int) (w : World) (S : Nat → Prop) (h : (netA d l).holds w S) (hb : l.length = 0 ∨ x < 0) :
    Calls Try.prog 21 #[.pointer (some ⟨d, 0, none⟩), .int .i64 x] w (Ret w (.tuple #[zeroU, .bool false])) := by
  have H0 : St w S w [netA d l] := St.start (Sep.one h)
  obtain ⟨SX, hSX⟩ := (H0.skip (.cells #[.int .i64 0, .int .i64 0, .int .i64 0, .string ByteArray.empty] 31)).held 0 rfl
  have H1 := H0.alloc [.int .i64 0, .int .i64 0, .int .i64 0, .string ByteArray.empty] 31
  replace H1 := Lib.hid H1
  clear H0 h
  go_enter Try.func21, Try.ntmps21
  go_wp2_with fail
  refine Calls.mono (place_bad d l x _ SX hSX hb) ?_
  rintro e w1 ⟨rfl, hb1⟩
  obtain ⟨zr, cr, fr⟩ := (H1.out.thru hb1).box 0 rfl
  go_wp2_with fail
  exact bodyPost_ret (v := .tuple #[zeroU, .bool false]) (by simp [results, Try.results21, go_sem, cr, zr, zeroU]; try rfl) rfl (Ret.mk rfl (by repeat (first | with_reducible exact Below.refl _ _ | (with_reducible refine Below.al ?_) | (with_reducible refine Below.drew ?_) | (with_reducible refine Below.set ?_ (by first | (simp; done) | omega | (simp; omega))) | (with_reducible refine Below.thru ?_ (by assumption)) | (with_reducible refine Below.chg ?_ (by assumption) (by first | (simp; done) | omega | (simp; omega))))))
theorem take_none (x : Int) (w : World) : Calls Try.prog 21 #[.pointer none, .int .i64 x] w (Ret w (.tuple #[zeroU, .bool false])) := by
  go_enter Try.func21, Try.ntmps21
  go_wp2_with fail
  refine Calls.mono (place_none x _) ?_
  rintro e w1 ⟨rfl, hb1⟩
  have hr : Box w1 w.heap.size zl := (Box.new zl 31).below hb1
  obtain ⟨zr, cr, fr⟩ := hr
  unfold zl at cr
  go_wp2_with fail
  exact bodyPost_ret (v := .tuple #[zeroU, .bool false]) (by simp [results, Try.results21, go_sem, cr, zr, zeroU]; try rfl) rfl (Ret.mk rfl (by repeat (first | with_reducible exact Below.refl _ _ | (with_reducible refine Below.al ?_) | (with_reducible refine Below.drew ?_) | (with_reducible refine Below.set ?_ (by first | (simp; done) | omega | (simp; omega))) | (with_reducible refine Below.thru ?_ (by assumption)) | (with_reducible refine Below.chg ?_ (by assumption) (by first | (simp; done) | omega | (simp; omega))))))
set_option maxRecDepth 100000 in
set_option maxHeartbeats 400000 in
theorem take_ok (d : Nat) (l : List Un) (x : Int) (u : Un) (w : World) (S : Nat → Prop) (h : (netA d l).holds w S) (hx : 0 ≤ x) (h0 : 0 < l.length) (hu : l[x.toNat % l.length]? = some u) :
    Calls Try.prog 21 #[.pointer (some ⟨d, 0, none⟩), .int .i64 x] w (Fin w S (.tuple #[valU u, .bool true]) [netA d (l.take (x.toNat % l.length) ++ l.drop (x.toNat % l.length + 1))]) := by
  have H0 : St w S w [netA d l] := St.start (Sep.one h)
  obtain ⟨SX, hSX⟩ := (H0.skip (.cells #[.int .i64 0, .int .i64 0, .int .i64 0, .string ByteArray.empty] 31)).held 0 rfl
  have H1 := H0.alloc [.int .i64 0, .int .i64 0, .int .i64 0, .string ByteArray.empty] 31
  have hd0 : d < w.heap.size := by
    obtain ⟨_, HP⟩ := net_parts H0
    exact (HP.box 0 rfl).lt
  have P := place_ok d l x _ SX hSX hx h0
  obtain ⟨k, hk⟩ : ∃ k, k = x.toNat % l.length := ⟨_, rfl⟩
  rw [← hk] at hu P ⊢
  obtain ⟨hkl, hku⟩ := List.getElem?_eq_some_iff.1 hu
  clear H0 h hSX hk hu
  replace H1 := Lib.hid H1
  go_enter Try.func21, Try.ntmps21
  go_wp2_with fail
  refine Calls.mono P ?_
  rintro e w1 ⟨rfl, hb1⟩
  have z1 := hb1.size
  simp only [World.size_alloc] at z1
  have n1 : ¬ d = w.heap.size := by omega
  have n2 : ¬ w.heap.size = d := by omega
  have n3 : ¬ d = w1.heap.size := by omega
  have n4 : ¬ w1.heap.size = d := by omega
  have n5 : ¬ w.heap.size = w1.heap.size := by omega
  have n6 : ¬ w1.heap.size = w.heap.size := by omega
  obtain ⟨v, H2⟩ := net_parts ((H1.out.thru hb1).front 1 rfl)
  obtain ⟨a, cap, hv, hn, hl, R⟩ := (H2.row 1 rfl).rd (by omega)
  obtain ⟨g, o, cap', hv'⟩ := row_some (H2.row 1 rfl) h0
  rw [hv] at hv'
  injection hv' with hv1 hv2 hv3
  subst hv1
  rw [hv] at H2
  clear hv
  obtain ⟨b, off, eb, hb, hc⟩ := Rd.rows enc_len (by omega) R rfl h0
  obtain ⟨rfl, rfl⟩ : g = b ∧ o = off := by injection eb with e; injection e with e1 e2; exact ⟨e1, e2⟩
  have e := hc k hkl
  rw [hku] at e
  obtain ⟨u0, u1, u2, u3⟩ := u
  have e0 := e 0 _ rfl
  have e1 := e 1 _ rfl
  have e2 := e 2 _ rfl
  have e3 := e 3 _ rfl
  simp only [Nat.add_zero] at e0 e1 e2 e3
  obtain ⟨z2, k2, f2⟩ := H2.box 0 rfl
  have HA := H2.alloc [.int .i64 u0, .int .i64 u1, .int .i64 u2, .string u3] 31
  clear hc e hku R hl eb hv2 hv3 P
  unfold maxLen at hn
  replace H2 := Lib.hid H2; replace HA := Lib.hid HA
  go_wp2_with fail
  obtain ⟨SR, hR, _, hback⟩ := HA.out.at 2 rfl
  refine Calls.mono (DelUn.delete_any g o l.length cap k (k + 1) (uns l) SR _ hR (by omega) (by omega) (uns_one _)) ?_
  rintro e w3 ⟨rfl, h3⟩
  have H3 := hback w3 _ h3
  have hcut : (uns l).take (k * 4) ++ (uns l).drop ((k + 1) * 4) = uns (l.take k ++ l.drop (k + 1)) := by rw [uns_take, uns_drop]; simp [uns]
  have hlen : (l.take k ++ l.drop (k + 1)).length = k + (l.length - (k + 1)) := by simp; omega
  rw [hcut] at H3
  clear HA hback h3 hR
  obtain ⟨z3, k3, f3⟩ := H3.box 2 rfl
  obtain ⟨zt, kt, ft⟩ := H3.box 1 rfl
  obtain ⟨zr, kr, fr⟩ := H3.box 3 rfl
  replace H3 := Lib.hid H3; replace hcut := Lib.hid hcut; replace hlen := Lib.hid hlen
  go_wp2_with fail
  refine bodyPost_ret (v := .tuple #[valU ⟨u0, u1, u2, u3⟩, .bool true]) (by simp [results, Try.results21, go_sem, kr, n1, n2, valU]) rfl ?_
  have H4 := H3.out.set 2 rfl 0 (.slice (some ⟨g, o, none⟩) (k + (l.length - (k + 1))) cap) (by simp)
  refine ⟨rfl, net_shut (v := .slice (some ⟨g, o, none⟩) (k + (l.length - (k + 1))) cap) (r := []) ?_⟩
  rw [hlen.out]
  exact ((((((((((H4.front 3 rfl).set 0 rfl 0 _ (by simp))).set 0 rfl 1 _ (by simp))).set 0 rfl 2 _ (by simp))).set 0 rfl 3 _ (by simp))).drop 0 rfl).drop 2 rfl
end Go.Proofs.Ytfdijoaclpnccaa.Net
