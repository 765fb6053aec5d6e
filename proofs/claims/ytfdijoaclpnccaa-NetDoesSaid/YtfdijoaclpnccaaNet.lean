/- The walks of the package net. -/
import Derived.Test.YtfdijoaclpnccaaDelUn
import Derived.Test.YtfdijoaclpnccaaStep
namespace Go.Proofs.Ytfdijoaclpnccaa.Net
set_option linter.unusedSimpArgs false
set_option linter.unusedVariables false
open Go Go.RowKit Go.Proofs.Ytfdijoaclpnccaa Go.Proofs.Ytfdijoaclpnccaa.DelUn
attribute [local irreducible] Calls

structure Un where
  side : Int
  frm : Int
  dst : Int
  dat : ByteArray
def encU (x : Un) : List Value := [.int .i64 x.side, .int .i64 x.frm, .int .i64 x.dst, .string x.dat]
def valU (x : Un) : Value := .agg #[.int .i64 x.side, .int .i64 x.frm, .int .i64 x.dst, .string x.dat]
def zeroU : Value := .agg #[.int .i64 0, .int .i64 0, .int .i64 0, .string ByteArray.empty]
def uns (l : List Un) : List Value := l.flatMap encU
theorem enc_len (x : Un) : (encU x).length = 4 := rfl
theorem uns_len (l : List Un) : (uns l).length = l.length * 4 := flat_len enc_len l
theorem uns_app (l : List Un) (x : Un) : uns l ++ encU x = uns (l ++ [x]) := by simp [uns]
theorem uns_one (l : List Un) : ∀ u ∈ uns l, u.oneCell' = true := by
  intro u hu
  obtain ⟨x, _, h⟩ := List.mem_flatMap.1 hu
  have : ∀ u ∈ encU x, u.oneCell' = true := by simp [encU, Value.oneCell']
  exact this u h
theorem uns_drop (l : List Un) (k : Nat) : (uns l).drop (k * 4) = uns (l.drop k) := by
  induction k generalizing l with
  | zero => simp
  | succ k ih =>
    cases l with
    | nil => simp [uns]
    | cons x l =>
      have h : uns (x :: l) = encU x ++ uns l := rfl
      rw [h, List.drop_append, enc_len, show (k + 1) * 4 - 4 = k * 4 by omega, ih, List.drop_of_length_le (by rw [enc_len]; omega)]
      rfl
theorem uns_take (l : List Un) (k : Nat) : (uns l).take (k * 4) = uns (l.take k) := by
  induction k generalizing l with
  | zero => simp [uns]
  | succ k ih =>
    cases l with
    | nil => simp [uns]
    | cons x l =>
      have h : uns (x :: l) = encU x ++ uns l := rfl
      rw [h, List.take_append, enc_len, show (k + 1) * 4 - 4 = k * 4 by omega, ih, List.take_of_length_le (by rw [enc_len]; omega)]
      rfl

/-- A net: where it lies, what is under way. -/
def netA (d : Nat) (l : List Un) : Asn := exA fun v => sepA [cellA d [v], rowA 4 v l.length (uns l)]
theorem net_open {d : Nat} {l : List Un} {w : World} {S : Nat → Prop} (h : (netA d l).holds w S) : ∃ v, St w S w [cellA d [v], rowA 4 v l.length (uns l)] := by
  obtain ⟨v, h⟩ := h
  exact ⟨v, St.start h⟩
theorem net_shut {W w : World} {S : Nat → Prop} {d : Nat} {l : List Un} {v : Value} {r : List Asn} (h : St W S w (cellA d [v] :: rowA 4 v l.length (uns l) :: r)) : St W S w (netA d l :: r) :=
  St.ex (fun v => sepA [cellA d [v], rowA 4 v l.length (uns l)]) v (St.join [cellA d [v], rowA 4 v l.length (uns l)] r h)
theorem net_parts {W w : World} {S : Nat → Prop} {d : Nat} {l : List Un} {r : List Asn} (h : St W S w (netA d l :: r)) : ∃ v, St W S w (cellA d [v] :: rowA 4 v l.length (uns l) :: r) := by
  obtain ⟨v, h⟩ := St.unex 0 h rfl
  exact ⟨v, St.unsep 0 h rfl⟩

theorem new_any (w : World) : Calls Try.prog 16 #[] w fun e w' => ∃ d, e = .returned (.pointer (some ⟨d, 0, none⟩)) ∧ St w none0 w' [netA d []] := by
  go_enter Try.func16, Try.ntmps16
  go_wp2_with fail
  go_ret
  exact ⟨_, rfl, net_shut (v := .slice none 0 0) (r := []) (((St.zero w).row_nil (size := 4)).alloc [.slice none 0 0] _)⟩
theorem len_any (d : Nat) (l : List Un) (w : World) (S : Nat → Prop) (h : (netA d l).holds w S) : Calls Try.prog 29 #[.pointer (some ⟨d, 0, none⟩)] w (Ret w (.int .i64 l.length)) := by
  obtain ⟨v, H⟩ := net_open h
  obtain ⟨a, cap, rfl, hn, hl, R⟩ := (H.row 1 rfl).rd (by omega)
  obtain ⟨z, c, f⟩ := H.box 0 rfl
  clear h H R hl
  go_enter Try.func29, Try.ntmps29
  go_wp2_with fail
  go_ret
  exact Ret.mk rfl (by repeat (first | with_reducible exact Below.refl _ _ | (with_reducible refine Below.al ?_) | (with_reducible refine Below.drew ?_) | (with_reducible refine Below.set ?_ (by first | (simp; done) | omega | (simp; omega))) | (with_reducible refine Below.thru ?_ (by assumption)) | (with_reducible refine Below.chg ?_ (by assumption) (by first | (simp; done) | omega | (simp; omega)))))
theorem len_none (w : World) : Calls Try.prog 29 #[.pointer none] w (Ret w (.int .i64 0)) := by
  go_enter Try.func29, Try.ntmps29
  go_wp2_with fail
  go_ret
  exact Ret.mk rfl (by repeat (first | with_reducible exact Below.refl _ _ | (with_reducible refine Below.al ?_) | (with_reducible refine Below.drew ?_) | (with_reducible refine Below.set ?_ (by first | (simp; done) | omega | (simp; omega))) | (with_reducible refine Below.thru ?_ (by assumption)) | (with_reducible refine Below.chg ?_ (by assumption) (by first | (simp; done) | omega | (simp; omega)))))
theorem put_none (x : Un) (w : World) : Calls Try.prog 18 #[.pointer none, valU x] w (Ret w (.bool false)) := by
  unfold valU
  go_enter Try.func18, Try.ntmps18
  go_wp2_with fail
  go_ret
  exact Ret.mk rfl (by repeat (first | with_reducible exact Below.refl _ _ | (with_reducible refine Below.al ?_) | (with_reducible refine Below.drew ?_) | (with_reducible refine Below.set ?_ (by first | (simp; done) | omega | (simp; omega))) | (with_reducible refine Below.thru ?_ (by assumption)) | (with_reducible refine Below.chg ?_ (by assumption) (by first | (simp; done) | omega | (simp; omega)))))
set_option maxRecDepth 100000 in
theorem put_any (d : Nat) (l : List Un) (x : Un) (w : World) (S : Nat → Prop) (h : (netA d l).holds w S) :
    Calls Try.prog 18 #[.pointer (some ⟨d, 0, none⟩), valU x] w (Fin w S (.bool (decide (l.length < 200))) [netA d (if l.length < 200 then l ++ [x] else l)]) := by
  obtain ⟨i0, hi, hz, hz1, hz2⟩ := info_parts el_info
  have h' := h
  obtain ⟨v, H⟩ := net_open h
  obtain ⟨a, cap, rfl, hn, hl, R⟩ := (H.row 1 rfl).rd (by omega)
  obtain ⟨z, c, f⟩ := H.box 0 rfl
  clear h R hl
  obtain ⟨x0, x1, x2, x3⟩ := x
  unfold valU
  simp only
  unfold maxLen at hn
  by_cases hlt : l.length < 200
  · have q : decide ((200 : Int) ≤ (l.length : Int)) = false := decide_eq_false (by omega)
    have q2 : decide (l.length < 200) = true := decide_eq_true hlt
    rw [q2, if_pos hlt]
    have H1 := H.alloc [.int .i64 x0, .int .i64 x1, .int .i64 x2, .string x3] 31
    clear H
    replace H1 := Lib.hid H1; replace h' := Lib.hid h'
    go_enter Try.func18, Try.ntmps18
    go_wp2_with fail
    go_region_law (refine step_appS rfl _ _ _ rfl 31 i0 _ 4 40 Try.underlying27 hi hz hz1 hz2 rfl (by omega) 2 (.slice a l.length cap) l.length (uns l) rfl (show St w S _ [cellA w.heap.size [.int .i64 x0, .int .i64 x1, .int .i64 x2, .string x3], cellA d [.slice a l.length cap], rowA 4 (.slice a l.length cap) l.length (uns l)] from by repeat (first | exact H1.out | refine St.drew ?_ | refine St.skip ?_ _)) rfl _ _ [.int .i64 x0, .int .i64 x1, .int .i64 x2, .string x3] rfl rfl (by intro j u hu; simpa using hu) (by simp [Value.oneCell']) (by omega) (by omega) ?_ (by omega); intro v5 w5 H5 hv5; obtain ⟨g5, o5, c5, hv5⟩ := hv5; rw [hv5] at H5 ⊢; obtain ⟨z5, k5, f5⟩ := H5.box 2 rfl; replace H5 := Lib.hid H5)
    all_goals
      go_wp2_with fail
      go_ret
      have H6 := (H5.out.set 2 rfl 0 (.slice (some ⟨g5, o5, none⟩) (l.length + 1) c5) (by simp)).drop 2 rfl
      refine ⟨rfl, net_shut (v := .slice (some ⟨g5, o5, none⟩) (l.length + 1) c5) (r := []) ?_⟩
      rw [List.length_append, ← uns_app]
      exact H6
  · have q : decide ((200 : Int) ≤ (l.length : Int)) = true := decide_eq_true (by omega)
    have q2 : decide (l.length < 200) = false := decide_eq_false hlt
    rw [q2, if_neg hlt]
    replace H := Lib.hid H; replace h' := Lib.hid h'
    go_enter Try.func18, Try.ntmps18
    go_wp2_with fail
    go_ret
    exact ⟨rfl, (St.start (Sep.one h'.out)).skip _⟩

theorem row_some {w : World} {base size n : Nat} {v : Value} {xs : List Value} (h : Own w base size v n xs) (hn : 0 < n) : ∃ g o cap, v = .slice (some ⟨g, o, none⟩) n cap := by
  rcases h.2 with ⟨_, e⟩ | ⟨g, o, cap, e, _⟩
  · omega
  · exact ⟨g, o, cap, e⟩
set_option maxRecDepth 100000 in
theorem place_ok (d : Nat) (l : List Un) (x : Int) (w : World) (S : Nat → Prop) (h : (netA d l).holds w S) (hx : 0 ≤ x) (h0 : 0 < l.length) :
    Calls Try.prog 75 #[.pointer (some ⟨d, 0, none⟩), .int .i64 x] w (Ret w (.tuple #[.int .i64 ((x.toNat % l.length : Nat) : Int), .bool true])) := by
  have h' := h
  obtain ⟨v, H⟩ := net_open h
  obtain ⟨a, cap, rfl, hn, hl, R⟩ := (H.row 1 rfl).rd (by omega)
  obtain ⟨z, c, f⟩ := H.box 0 rfl
  have q : decide (x < 0) = false := decide_eq_false (by omega)
  have q2 : decide ((l.length : Int) = 0) = false := decide_eq_false (by omega)
  have q3 : ((l.length : Int) == 0) = false := beq_false_of_ne (by omega)
  obtain ⟨k, rfl⟩ : ∃ k : Nat, x = (k : Int) := ⟨x.toNat, by omega⟩
  obtain ⟨m, hm'⟩ : ∃ m : Nat, m = k % l.length := ⟨_, rfl⟩
  have hm : ((k : Int)) % (l.length : Int) = (m : Int) := by rw [hm']; norm_cast
  rw [Int.toNat_natCast, ← hm']
  have P := len_any d l w S h'
  clear h R hl H h' hm'
  generalize l.length = n at *
  replace P := Lib.hid P
  go_enter Try.func75, Try.ntmps75
  go_wp2_with fail
  refine Calls.mono (P.out) ?_
  rintro e w1 ⟨rfl, hb1⟩
  have z1 := Below.size hb1; try simp only [World.size_alloc, World.size_setCell, World.size_drew] at z1
  obtain ⟨c1_0, f1_0⟩ := Below.blk hb1 (b := d) (by first | (simp; done) | omega | (simp; omega))
  have z1_0 : d < w1.heap.size := (by first | (simp; done) | omega | (simp; omega))
  go_wp2_with fail
  go_ret2
  exact Ret.mk (by simp [hm]) (by repeat (first | with_reducible exact Below.refl _ _ | (with_reducible refine Below.al ?_) | (with_reducible refine Below.drew ?_) | (with_reducible refine Below.set ?_ (by first | (simp; done) | omega | (simp; omega))) | (with_reducible refine Below.thru ?_ (by assumption)) | (with_reducible refine Below.chg ?_ (by assumption) (by first | (simp; done) | omega | (simp; omega)))))
set_option maxRecDepth 100000 in
theorem place_bad (d : Nat) (l : List Un) (x : Int) (w : World) (S : Nat → Prop) (h : (netA d l).holds w S) (hb : l.length = 0 ∨ x < 0) :
    Calls Try.prog 75 #[.pointer (some ⟨d, 0, none⟩), .int .i64 x] w (Ret w (.tuple #[.int .i64 0, .bool false])) := by
  replace h := Lib.hid h
  go_enter Try.func75, Try.ntmps75
  go_wp2_with fail
  refine Calls.mono (len_any d l w S h.out) ?_
  rintro e w1 ⟨rfl, hb1⟩
  have z1 := Below.size hb1; try simp only [World.size_alloc, World.size_setCell, World.size_drew] at z1
  by_cases h0 : l.length = 0
  · rw [h0]
    go_wp2_with fail
    go_ret2
    exact Ret.mk rfl (by repeat (first | with_reducible exact Below.refl _ _ | (with_reducible refine Below.al ?_) | (with_reducible refine Below.drew ?_) | (with_reducible refine Below.set ?_ (by first | (simp; done) | omega | (simp; omega))) | (with_reducible refine Below.thru ?_ (by assumption)) | (with_reducible refine Below.chg ?_ (by assumption) (by first | (simp; done) | omega | (simp; omega)))))
  · have hx := hb.resolve_left h0
    have q : decide (x < 0) = true := decide_eq_true (by omega)
    have q2 : decide ((l.length : Int) = 0) = false := decide_eq_false (by omega)
    have q3 : ((l.length : Int) == 0) = false := beq_false_of_ne (by omega)
    replace h0 := Lib.hid h0
    clear hb
    go_wp2_with fail
    go_ret2
    exact Ret.mk rfl (by repeat (first | with_reducible exact Below.refl _ _ | (with_reducible refine Below.al ?_) | (with_reducible refine Below.drew ?_) | (with_reducible refine Below.set ?_ (by first | (simp; done) | omega | (simp; omega))) | (with_reducible refine Below.thru ?_ (by assumption)) | (with_reducible refine Below.chg ?_ (by assumption) (by first | (simp; done) | omega | (simp; omega)))))
theorem place_none (x : Int) (w : World) : Calls Try.prog 75 #[.pointer none, .int .i64 x] w (Ret w (.tuple #[.int .i64 0, .bool false])) := by
  go_enter Try.func75, Try.ntmps75
  go_wp2_with fail
  refine Calls.mono (len_none w) ?_
  rintro e w1 ⟨rfl, hb1⟩
  have z1 := Below.size hb1; try simp only [World.size_alloc, World.size_setCell, World.size_drew] at z1
  go_wp2_with fail
  go_ret2
  exact Ret.mk rfl (by repeat (first | with_reducible exact Below.refl _ _ | (with_reducible refine Below.al ?_) | (with_reducible refine Below.drew ?_) | (with_reducible refine Below.set ?_ (by first | (simp; done) | omega | (simp; omega))) | (with_reducible refine Below.thru ?_ (by assumption)) | (with_reducible refine Below.chg ?_ (by assumption) (by first | (simp; done) | omega | (simp; omega)))))
end Go.Proofs.Ytfdijoaclpnccaa.Net
