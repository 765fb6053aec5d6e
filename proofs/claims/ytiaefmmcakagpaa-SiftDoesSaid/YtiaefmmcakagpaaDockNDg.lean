/- The walks of the package dock at a type of elements, without Push. -/
import Derived.Test.YtiaefmmcakagpaaDelDg
import Derived.Test.YtiaefmmcakagpaaStep
namespace Go.Proofs.Ytiaefmmcakagpaa.DockDg
set_option linter.unusedSimpArgs false
set_option linter.unusedVariables false
open Go Go.RowKit Go.Proofs.Ytiaefmmcakagpaa Go.Proofs.Ytiaefmmcakagpaa.DelDg
attribute [local irreducible] Calls

abbrev El := Int × ByteArray
def enc (x : El) : List Value := [.int .i64 x.1, .string x.2]
def val (x : El) : Value := .agg #[.int .i64 x.1, .string x.2]
def zero : El := (0, ByteArray.empty)
def encs (l : List El) : List Value := l.flatMap enc
theorem enc_len (x : El) : (enc x).length = 2 := rfl
theorem encs_len (l : List El) : (encs l).length = l.length * 2 := flat_len enc_len l
theorem encs_app (l : List El) (x : El) : encs l ++ enc x = encs (l ++ [x]) := by simp [encs]
theorem encs_one (l : List El) : ∀ u ∈ encs l, u.oneCell' = true := by
  intro u hu
  obtain ⟨x, _, h⟩ := List.mem_flatMap.1 hu
  have : ∀ u ∈ enc x, u.oneCell' = true := by simp [enc, Value.oneCell']
  exact this u h
theorem encs_drop (l : List El) (k : Nat) : (encs l).drop (k * 2) = encs (l.drop k) := by
  induction k generalizing l with
  | zero => simp
  | succ k ih =>
    cases l with
    | nil => simp [encs]
    | cons x l =>
      have h : encs (x :: l) = enc x ++ encs l := rfl
      rw [h, List.drop_append, enc_len, show (k + 1) * 2 - 2 = k * 2 by omega, ih, List.drop_of_length_le (by rw [enc_len]; omega)]
      rfl
theorem encs_take (l : List El) (k : Nat) : (encs l).take (k * 2) = encs (l.take k) := by
  induction k generalizing l with
  | zero => simp [encs]
  | succ k ih =>
    cases l with
    | nil => simp [encs]
    | cons x l =>
      have h : encs (x :: l) = enc x ++ encs l := rfl
      rw [h, List.take_append, enc_len, show (k + 1) * 2 - 2 = k * 2 by omega, ih, List.take_of_length_le (by rw [enc_len]; omega)]
      rfl

/-- A dock: where it lies, for how many, what waits. -/
def dockA (d : Nat) (most : Int) (l : List El) : Asn := exA fun v => sepA [cellA d [v, .int .i64 most], rowA 2 v l.length (encs l)]
/-- Its parts, in a call that began with it. -/
theorem dock_open {d : Nat} {most : Int} {l : List El} {w : World} {S : Nat → Prop} (h : (dockA d most l).holds w S) : ∃ v, St w S w [cellA d [v, .int .i64 most], rowA 2 v l.length (encs l)] := by
  obtain ⟨v, h⟩ := h
  exact ⟨v, St.start h⟩
theorem dock_shut {W w : World} {S : Nat → Prop} {d : Nat} {most : Int} {l : List El} {v : Value} {r : List Asn} (h : St W S w (cellA d [v, .int .i64 most] :: rowA 2 v l.length (encs l) :: r)) : St W S w (dockA d most l :: r) :=
  St.ex (fun v => sepA [cellA d [v, .int .i64 most], rowA 2 v l.length (encs l)]) v (St.join [cellA d [v, .int .i64 most], rowA 2 v l.length (encs l)] r h)
theorem dock_parts {W w : World} {S : Nat → Prop} {d : Nat} {most : Int} {l : List El} {r : List Asn} (h : St W S w (dockA d most l :: r)) : ∃ v, St W S w (cellA d [v, .int .i64 most] :: rowA 2 v l.length (encs l) :: r) := by
  obtain ⟨v, h⟩ := St.unex 0 h rfl
  exact ⟨v, St.unsep 0 h rfl⟩

theorem new_any (most : Int) (w : World) : Calls Try.prog 75 #[.int .i64 most] w fun e w' => ∃ d, e = .returned (.pointer (some ⟨d, 0, none⟩)) ∧ St w none0 w' [dockA d (min (max most 0) 1000) []] := by
  go_enter Try.func75, Try.ntmps75
  go_wp2_with fail
  go_ret
  exact ⟨_, rfl, dock_shut (v := .slice none 0 0) (r := []) (((St.zero w).row_nil (size := 2)).alloc [.slice none 0 0, .int .i64 (min (max most 0) 1000)] _)⟩

theorem len_any (d : Nat) (most : Int) (l : List El) (w : World) (S : Nat → Prop) (h : (dockA d most l).holds w S) : Calls Try.prog 82 #[.pointer (some ⟨d, 0, none⟩)] w (Ret w (.int .i64 l.length)) := by
  obtain ⟨v, H⟩ := dock_open h
  obtain ⟨a, cap, rfl, hn, hl, R⟩ := (H.row 1 rfl).rd (by omega)
  obtain ⟨z, c, f⟩ := H.box 0 rfl
  clear h H R hl
  go_enter Try.func82, Try.ntmps82
  go_wp2_with fail
  go_ret
  exact Ret.mk rfl (by repeat (first | with_reducible exact Below.refl _ _ | (with_reducible refine Below.al ?_) | (with_reducible refine Below.drew ?_) | (with_reducible refine Below.set ?_ (by first | (simp; done) | omega | (simp; omega))) | (with_reducible refine Below.thru ?_ (by assumption)) | (with_reducible refine Below.chg ?_ (by assumption) (by first | (simp; done) | omega | (simp; omega)))))
theorem len_none (w : World) : Calls Try.prog 82 #[.pointer none] w (Ret w (.int .i64 0)) := by
  go_enter Try.func82, Try.ntmps82
  go_wp2_with fail
  go_ret
  exact Ret.mk rfl (by repeat (first | with_reducible exact Below.refl _ _ | (with_reducible refine Below.al ?_) | (with_reducible refine Below.drew ?_) | (with_reducible refine Below.set ?_ (by first | (simp; done) | omega | (simp; omega))) | (with_reducible refine Below.thru ?_ (by assumption)) | (with_reducible refine Below.chg ?_ (by assumption) (by first | (simp; done) | omega | (simp; omega)))))
theorem full_any (d : Nat) (most : Int) (l : List El) (w : World) (S : Nat → Prop) (h : (dockA d most l).holds w S) : Calls Try.prog 114 #[.pointer (some ⟨d, 0, none⟩)] w (Ret w (.bool (decide (most ≤ l.length)))) := by
  obtain ⟨v, H⟩ := dock_open h
  obtain ⟨a, cap, rfl, hn, hl, R⟩ := (H.row 1 rfl).rd (by omega)
  obtain ⟨z, c, f⟩ := H.box 0 rfl
  clear h H R hl
  go_enter Try.func114, Try.ntmps114
  go_wp2_with fail
  refine wp_region_near (by kernel_rfl) (by kernel_rfl) ?_
  intro hs
  repeat (go_big_quiet_step (fail))
  refine wpQuiet_nil ?_
  clear hs
  intro w1 hb1
  go_wp2_with fail
  go_ret
  exact Ret.mk rfl (by repeat (first | with_reducible exact Below.refl _ _ | (with_reducible refine Below.al ?_) | (with_reducible refine Below.drew ?_) | (with_reducible refine Below.set ?_ (by first | (simp; done) | omega | (simp; omega))) | (with_reducible refine Below.thru ?_ (by assumption)) | (with_reducible refine Below.chg ?_ (by assumption) (by first | (simp; done) | omega | (simp; omega)))))
def headV (l : List El) : El := l.headD zero
theorem first_any (d : Nat) (most : Int) (l : List El) (w : World) (S : Nat → Prop) (h : (dockA d most l).holds w S) : Calls Try.prog 103 #[.pointer (some ⟨d, 0, none⟩)] w (Ret w (.tuple #[val (headV l), .bool (decide (0 < l.length))])) := by
  obtain ⟨v, H⟩ := dock_open h
  obtain ⟨a, cap, rfl, hn, hl, R⟩ := (H.row 1 rfl).rd (by omega)
  obtain ⟨z, c, f⟩ := H.box 0 rfl
  clear h H
  cases l with
  | nil =>
    clear R hl
    go_enter Try.func103, Try.ntmps103
    go_wp2_with fail
    exact bodyPost_ret (v := .tuple #[val (headV []), .bool false]) (by simp [results, Try.results103, go_sem, val, headV, zero]; try rfl) rfl (Ret.mk rfl (by repeat (first | with_reducible exact Below.refl _ _ | (with_reducible refine Below.al ?_) | (with_reducible refine Below.drew ?_) | (with_reducible refine Below.set ?_ (by first | (simp; done) | omega | (simp; omega))) | (with_reducible refine Below.thru ?_ (by assumption)) | (with_reducible refine Below.chg ?_ (by assumption) (by first | (simp; done) | omega | (simp; omega))))))
  | cons x l =>
    obtain ⟨b, off, rfl, hb, hc⟩ := Rd.rows enc_len (by omega) R rfl (by simp)
    have e0 := hc 0 (by simp)
    have e00 := e0 0 _ rfl; rw [show off + 0 * 2 + 0 = off + 0 by omega] at e00; simp only [List.getElem_cons_zero, Nat.add_zero] at e00
    have e01 := e0 1 _ rfl; rw [show off + 0 * 2 + 1 = off + 1 by omega] at e01; simp only [List.getElem_cons_zero, Nat.add_zero] at e01
    have hlen : (x :: l).length = l.length + 1 := rfl
    have hn' : l.length + 1 ≤ maxLen := hn
    clear hc R hl e0 hn
    unfold maxLen at hn'
    simp only [List.length_cons] at c
    have hq : ((l.length + 1 : Nat) : Int) = (l.length : Int) + 1 := by omega
    have hq2 : (((l.length + 1 : Nat) : Int) == 0) = false := by simp; omega
    rw [show headV (x :: l) = x from rfl, show decide (0 < (x :: l).length) = true from rfl]
    have hpos : 0 < l.length + 1 := by omega
    generalize l.length + 1 = n at *
    generalize hx : x = y at *
    clear hlen hq
    go_enter Try.func103, Try.ntmps103
    go_wp2_with fail
    exact bodyPost_ret (v := .tuple #[val y, .bool true]) (by simp [results, Try.results103, go_sem, val]) rfl (Ret.mk rfl (by repeat (first | with_reducible exact Below.refl _ _ | (with_reducible refine Below.al ?_) | (with_reducible refine Below.drew ?_) | (with_reducible refine Below.set ?_ (by first | (simp; done) | omega | (simp; omega))) | (with_reducible refine Below.thru ?_ (by assumption)) | (with_reducible refine Below.chg ?_ (by assumption) (by first | (simp; done) | omega | (simp; omega))))))
theorem first_none (w : World) : Calls Try.prog 103 #[.pointer none] w (Ret w (.tuple #[val zero, .bool false])) := by
  go_enter Try.func103, Try.ntmps103
  go_wp2_with fail
  exact bodyPost_ret (v := .tuple #[val zero, .bool false]) (by simp [results, Try.results103, go_sem, val, zero]; try rfl) rfl (Ret.mk rfl (by repeat (first | with_reducible exact Below.refl _ _ | (with_reducible refine Below.al ?_) | (with_reducible refine Below.drew ?_) | (with_reducible refine Below.set ?_ (by first | (simp; done) | omega | (simp; omega))) | (with_reducible refine Below.thru ?_ (by assumption)) | (with_reducible refine Below.chg ?_ (by assumption) (by first | (simp; done) | omega | (simp; omega))))))

theorem first_nil (d : Nat) (most : Int) (w : World) (S : Nat → Prop) (h : (dockA d most []).holds w S) : Calls Try.prog 103 #[.pointer (some ⟨d, 0, none⟩)] w (Ret w (.tuple #[.agg #[.int .i64 0, .string ByteArray.empty], .bool false])) := first_any d most [] w S h
theorem first_cons (d : Nat) (most : Int) (x : El) (l : List El) (w : World) (S : Nat → Prop) (h : (dockA d most (x :: l)).holds w S) : Calls Try.prog 103 #[.pointer (some ⟨d, 0, none⟩)] w (Ret w (.tuple #[.agg #[.int .i64 x.1, .string x.2], .bool true])) := first_any d most (x :: l) w S h
theorem row_some {w : World} {base size n : Nat} {v : Value} {xs : List Value} (h : Own w base size v n xs) (hn : 0 < n) : ∃ g o cap, v = .slice (some ⟨g, o, none⟩) n cap := by
  rcases h.2 with ⟨_, e⟩ | ⟨g, o, cap, e, _⟩
  · omega
  · exact ⟨g, o, cap, e⟩
set_option maxRecDepth 100000 in
theorem pull_nil (d : Nat) (most : Int) (w : World) (S : Nat → Prop) (h : (dockA d most []).holds w S) :
    Calls Try.prog 77 #[.pointer (some ⟨d, 0, none⟩)] w (Ret w (.tuple #[.agg #[.int .i64 0, .string ByteArray.empty], .bool false])) := by
  have H0 : St w S w [dockA d most []] := St.start (Sep.one h)
  obtain ⟨SX, hSX⟩ := (H0.skip (.cells #[.int .i64 0, .string ByteArray.empty] 45)).held 0 rfl
  have H1 := H0.alloc [.int .i64 0, .string ByteArray.empty] 45
  replace H1 := Lib.hid H1
  clear H0
  go_enter Try.func77, Try.ntmps77
  go_wp2_with fail
  refine Calls.mono (first_nil d most _ SX hSX) ?_
  rintro e w1 ⟨rfl, hb1⟩
  obtain ⟨zr, cr, fr⟩ := (H1.out.thru hb1).box 0 rfl
  go_wp2_with fail
  exact bodyPost_ret (v := .tuple #[.agg #[.int .i64 0, .string ByteArray.empty], .bool false]) (by simp [results, Try.results77, go_sem, cr, zr]) rfl (Ret.mk rfl (by repeat (first | with_reducible exact Below.refl _ _ | (with_reducible refine Below.al ?_) | (with_reducible refine Below.drew ?_) | (with_reducible refine Below.set ?_ (by first | (simp; done) | omega | (simp; omega))) | (with_reducible refine Below.thru ?_ (by assumption)) | (with_reducible refine Below.chg ?_ (by assumption) (by first | (simp; done) | omega | (simp; omega))))))
set_option maxRecDepth 100000 in
theorem pull_cons (d : Nat) (most : Int) (x : El) (l : List El) (w : World) (S : Nat → Prop) (h : (dockA d most (x :: l)).holds w S) :
    Calls Try.prog 77 #[.pointer (some ⟨d, 0, none⟩)] w (Fin w S (.tuple #[.agg #[.int .i64 x.1, .string x.2], .bool true]) [dockA d most l]) := by
  have H0 : St w S w [dockA d most (x :: l)] := St.start (Sep.one h)
  obtain ⟨SX, hSX⟩ := (H0.skip (.cells #[.int .i64 0, .string ByteArray.empty] 45)).held 0 rfl
  have H1 := H0.alloc [.int .i64 0, .string ByteArray.empty] 45
  have hd0 : d < w.heap.size := by
    obtain ⟨_, HP⟩ := dock_parts H0
    exact (HP.box 0 rfl).lt
  replace H0 := Lib.hid H0; replace H1 := Lib.hid H1
  go_enter Try.func77, Try.ntmps77
  go_wp2_with fail
  refine Calls.mono (first_cons d most x l _ SX hSX) ?_
  rintro e w1 ⟨rfl, hb1⟩
  have z1 := hb1.size
  simp only [World.size_alloc] at z1
  have n1 : ¬ d = w.heap.size := by omega
  have n2 : ¬ w.heap.size = d := by omega
  have n3 : ¬ d = w1.heap.size := by omega
  have n4 : ¬ w1.heap.size = d := by omega
  have n5 : ¬ w.heap.size = w1.heap.size := by omega
  have n6 : ¬ w1.heap.size = w.heap.size := by omega
  obtain ⟨v, H2⟩ := dock_parts ((H1.out.thru hb1).front 1 rfl)
  obtain ⟨g, o, cap, rfl⟩ := row_some (H2.row 1 rfl) (by simp)
  obtain ⟨z2, k2, f2⟩ := H2.box 0 rfl
  clear hSX
  have HA := H2.alloc [.int .i64 x.1, .string x.2] 45
  have hlen : (x :: l).length = l.length + 1 := rfl
  replace H2 := Lib.hid H2
  simp only [List.length_cons] at k2
  go_wp2_with fail
  obtain ⟨SR, hR, _, hback⟩ := HA.at 2 rfl
  refine Calls.mono (DelDg.delete_any g o (l.length + 1) cap 0 1 (encs (x :: l)) SR _ hR (by omega) (by omega) (encs_one _)) ?_
  rintro e w3 ⟨rfl, h3⟩
  have H3 := hback w3 _ h3
  rw [show (encs (x :: l)).take (0 * 2) ++ (encs (x :: l)).drop (1 * 2) = encs l from by rw [encs_drop]; simp, show 0 + (l.length + 1 - 1) = l.length from by omega] at H3
  clear HA hback h3 hR
  obtain ⟨z3, k3, f3⟩ := H3.box 2 rfl
  obtain ⟨zt, kt, ft⟩ := H3.box 1 rfl
  obtain ⟨zr, kr, fr⟩ := H3.box 3 rfl
  replace H3 := Lib.hid H3
  go_wp2_with fail
  refine bodyPost_ret (v := .tuple #[.agg #[.int .i64 x.1, .string x.2], .bool true]) (by simp [results, Try.results77, go_sem, kr, n1, n2]) rfl ?_
  have H4 := H3.out.set 2 rfl 0 (.slice (some ⟨g, o, none⟩) l.length cap) (by simp)
  refine ⟨rfl, dock_shut (v := .slice (some ⟨g, o, none⟩) l.length cap) (r := []) ?_⟩
  exact ((((((H4.front 3 rfl).set 0 rfl 0 _ (by simp))).set 0 rfl 1 _ (by simp))).drop 0 rfl).drop 2 rfl
theorem pull_none (w : World) : Calls Try.prog 77 #[.pointer none] w (Ret w (.tuple #[.agg #[.int .i64 0, .string ByteArray.empty], .bool false])) := by
  go_enter Try.func77, Try.ntmps77
  go_wp2_with fail
  refine Calls.mono (first_none _) ?_
  rintro e w1 ⟨rfl, hb1⟩
  have hz : val zero = .agg #[.int .i64 0, .string ByteArray.empty] := rfl
  rw [hz]
  have hr : Box w1 w.heap.size [.int .i64 0, .string ByteArray.empty] := (Box.new [.int .i64 0, .string ByteArray.empty] 45).below hb1
  obtain ⟨zr, cr, fr⟩ := hr
  go_wp2_with fail
  exact bodyPost_ret (v := .tuple #[.agg #[.int .i64 0, .string ByteArray.empty], .bool false]) (by simp [results, Try.results77, go_sem, cr, zr]) rfl (Ret.mk rfl (by repeat (first | with_reducible exact Below.refl _ _ | (with_reducible refine Below.al ?_) | (with_reducible refine Below.drew ?_) | (with_reducible refine Below.set ?_ (by first | (simp; done) | omega | (simp; omega))) | (with_reducible refine Below.thru ?_ (by assumption)) | (with_reducible refine Below.chg ?_ (by assumption) (by first | (simp; done) | omega | (simp; omega))))))
end Go.Proofs.Ytiaefmmcakagpaa.DockDg
