
/- The walks of the package dock at a type of elements that lie in one slot: Spill, All, Clone. -/
import Derived.Test.YtiaefmmcakagpaaDockSInt
namespace Go.Proofs.Ytiaefmmcakagpaa.DockSInt
set_option linter.unusedSimpArgs false
set_option linter.unusedVariables false
open Go Go.RowKit Go.Proofs.Ytiaefmmcakagpaa Go.Proofs.Ytiaefmmcakagpaa.DelInt
attribute [local irreducible] Calls

theorem spill_none (x : El) (w : World) : Calls Try.prog 50 #[.pointer none, val x] w (Ret w (.tuple #[.int .i64 0, .bool false])) := by
  unfold val
  go_enter Try.func50, Try.ntmps50
  go_wp2_with fail
  go_ret2
  exact Ret.mk rfl (by repeat (first | with_reducible exact Below.refl _ _ | (with_reducible refine Below.al ?_) | (with_reducible refine Below.drew ?_) | (with_reducible refine Below.set ?_ (by first | (simp; done) | omega | (simp; omega))) | (with_reducible refine Below.thru ?_ (by assumption)) | (with_reducible refine Below.chg ?_ (by assumption) (by first | (simp; done) | omega | (simp; omega)))))
theorem spill_zero (d : Nat) (l : List El) (x : El) (w : World) (S : Nat → Prop) (h : (dockA d 0 l).holds w S) :
    Calls Try.prog 50 #[.pointer (some ⟨d, 0, none⟩), val x] w (Ret w (.tuple #[val x, .bool true])) := by
  obtain ⟨v, H⟩ := dock_open h
  obtain ⟨z, c, f⟩ := H.box 0 rfl
  clear h H
  unfold val
  go_enter Try.func50, Try.ntmps50
  go_wp2_with fail
  go_ret2
  exact Ret.mk rfl (by repeat (first | with_reducible exact Below.refl _ _ | (with_reducible refine Below.al ?_) | (with_reducible refine Below.drew ?_) | (with_reducible refine Below.set ?_ (by first | (simp; done) | omega | (simp; omega))) | (with_reducible refine Below.thru ?_ (by assumption)) | (with_reducible refine Below.chg ?_ (by assumption) (by first | (simp; done) | omega | (simp; omega)))))
set_option maxRecDepth 100000 in
theorem spill_room (d : Nat) (most : Int) (l : List El) (x : El) (w : World) (S : Nat → Prop) (h : (dockA d most l).holds w S) (hsm : l.length ≤ 100000) (hlt : (l.length : Int) < most) :
    Calls Try.prog 50 #[.pointer (some ⟨d, 0, none⟩), val x] w (Fin w S (.tuple #[.int .i64 0, .bool false]) [dockA d most (l ++ [x])]) := by
  obtain ⟨i0, hi, hz, hz1, hz2⟩ := info_parts el_info
  have P1 := full_any d most l w S h
  obtain ⟨v, H⟩ := dock_open h
  obtain ⟨a, cap, rfl, hn, hl, R⟩ := (H.row 1 rfl).rd (by omega)
  obtain ⟨z, c, f⟩ := H.box 0 rfl
  have q0 : (most == 0) = false := by simp; omega
  have q : decide (most ≤ (l.length : Int)) = false := decide_eq_false (by omega)
  clear h R hl
  unfold val
  replace H := Lib.hid H; replace P1 := Lib.hid P1
  go_enter Try.func50, Try.ntmps50
  go_wp2_with fail
  refine Calls.mono (P1.out) ?_
  rintro e w1 ⟨rfl, hb1⟩
  have z1 := Below.size hb1; try simp only [World.size_alloc, World.size_setCell, World.size_drew] at z1
  obtain ⟨c1_0, f1_0⟩ := Below.blk hb1 (b := d) (by first | (simp; done) | omega | (simp; omega))
  have z1_0 : d < w1.heap.size := (by first | (simp; done) | omega | (simp; omega))
  have H1 := H.out.thru hb1
  clear P1
  replace H1 := Lib.hid H1
  go_wp2_with (at_builtin; (refine wpList_appS rfl (.tmp 28) (.tmp 30) _ rfl 3 i0 _ 1 8 Try.underlying34 hi hz hz1 hz2 rfl (by omega) 1 _ l.length (encs l) rfl H1.out rfl 1 1 [.int .i64 x] rfl rfl (by simp [Value.oneCell']) (by omega) (by omega) ?_; intro v5 w5 H5; obtain ⟨g5, o5, c5, rfl⟩ := row_some (H5.row 0 rfl) (by omega); obtain ⟨z5, k5, f5⟩ := H5.box 1 rfl; replace H5 := Lib.hid H5))
  go_ret2
  have H6 := H5.out.set 1 rfl 0 (.slice (some ⟨g5, o5, none⟩) (l.length + 1) c5) (by simp)
  refine ⟨rfl, dock_shut (v := .slice (some ⟨g5, o5, none⟩) (l.length + 1) c5) (r := []) ?_⟩
  rw [List.length_append, ← encs_app]
  exact H6
set_option maxRecDepth 100000 in
theorem spill_full (d : Nat) (most : Int) (y : El) (l : List El) (x : El) (w : World) (S : Nat → Prop) (h : (dockA d most (y :: l)).holds w S) (hsm : l.length ≤ 100000) (hlt : ¬ ((y :: l).length : Int) < most) (h0 : most ≠ 0) :
    Calls Try.prog 50 #[.pointer (some ⟨d, 0, none⟩), val x] w (Fin w S (.tuple #[val y, .bool true]) [dockA d most (l ++ [x])]) := by
  obtain ⟨i0, hi, hz, hz1, hz2⟩ := info_parts el_info
  have H0 : St w S w [dockA d most (y :: l)] := St.start (Sep.one h)
  have P1 := full_any d most (y :: l) w S h
  obtain ⟨v, H⟩ := dock_open h
  obtain ⟨z, c, f⟩ := H.box 0 rfl
  have q0 : (most == 0) = false := by simpa using h0
  have q : decide (most ≤ ((y :: l).length : Int)) = true := decide_eq_true (by omega)
  rw [q] at P1
  clear h H q hlt
  unfold val
  replace H0 := Lib.hid H0; replace P1 := Lib.hid P1
  go_enter Try.func50, Try.ntmps50
  go_wp2_with fail
  refine Calls.mono (P1.out) ?_
  rintro e w1 ⟨rfl, hb1⟩
  have z1 := Below.size hb1; try simp only [World.size_alloc, World.size_setCell, World.size_drew] at z1
  obtain ⟨c1_0, f1_0⟩ := Below.blk hb1 (b := d) (by first | (simp; done) | omega | (simp; omega))
  have z1_0 : d < w1.heap.size := (by first | (simp; done) | omega | (simp; omega))
  have P2 := Calls.st_at 0 (H0.out.thru hb1) rfl fun S h => pull_cons d most y l _ S h
  clear P1 H0
  replace P2 := Lib.hid P2
  go_wp2_with fail
  refine Calls.mono P2.out ?_
  rintro e w2 ⟨rfl, H2⟩
  clear P2
  obtain ⟨v2, H3⟩ := dock_parts H2
  obtain ⟨a, cap, rfl, hn, hl, R⟩ := (H3.row 1 rfl).rd (by omega)
  obtain ⟨z3, k3, f3⟩ := H3.box 0 rfl
  clear H2 R hl
  replace H3 := Lib.hid H3
  go_wp2_with (at_builtin; (refine wpList_appS rfl (.tmp 44) (.tmp 46) _ rfl 3 i0 _ 1 8 Try.underlying34 hi hz hz1 hz2 rfl (by omega) 1 _ l.length (encs l) rfl H3.out rfl 1 1 [.int .i64 x] rfl rfl (by simp [Value.oneCell']) (by omega) (by omega) ?_; intro v5 w5 H5; obtain ⟨g5, o5, c5, rfl⟩ := row_some (H5.row 0 rfl) (by omega); obtain ⟨z5, k5, f5⟩ := H5.box 1 rfl; replace H5 := Lib.hid H5))
  go_ret2
  have H6 := H5.out.set 1 rfl 0 (.slice (some ⟨g5, o5, none⟩) (l.length + 1) c5) (by simp)
  refine ⟨rfl, dock_shut (v := .slice (some ⟨g5, o5, none⟩) (l.length + 1) c5) (r := []) ?_⟩
  rw [List.length_append, ← encs_app]
  exact H6

set_option maxRecDepth 100000 in
/-- A slice laid anew. -/
theorem clone_any (l : List El) (a : Option Addr) (cap : Nat) (w : World) (h : Rd w a (encs l)) (h0 : a = none → l.length = 0) (hn : l.length ≤ 100000) (hc : a = none → cap = 0) :
    Calls Try.prog 92 #[.slice a l.length cap] w (fun e w' => ∃ v, e = .returned v ∧ St w none0 w' [rowA 1 v l.length (encs l)]) := by
  obtain ⟨i0, hi, hz, hz1, hz2⟩ := info_parts el_info
  have hsn := run_eql_snil (P := Try.prog) 34 _ Try.underlying34
  cases a with
  | none =>
    obtain rfl : l = [] := List.eq_nil_of_length_eq_zero (h0 rfl)
    obtain rfl := hc rfl
    clear h h0 hc
    go_enter Try.func92, Try.ntmps92
    go_wp2_with fail
    go_ret
    exact ⟨_, rfl, (St.zero w).row_nil⟩
  | some a =>
    have E1 := (St.zero w).alloc [] 3
    have E2 := E1.row_empty (size := 1) 0 rfl
    have hr := h.of_st E2
    clear h E1
    replace E2 := Lib.hid E2; replace hr := Lib.hid hr
    go_enter Try.func92, Try.ntmps92
    go_wp2_with (at_builtin; (refine wpList_appRd rfl (.tmp 5) (.tmp 6) _ rfl 3 i0 _ 1 8 Try.underlying34 hi hz hz1 hz2 rfl (by omega) 0 _ 0 [] rfl E2.out rfl _ l.length cap (encs l) rfl (encs_len l) hr.out (fun e => by cases e) (encs_one l) (by omega) (by omega) ?_; intro wv5 w5 HA; simp only [Nat.zero_add, List.nil_append] at HA; replace HA := Lib.hid HA))
    go_ret
    exact ⟨_, rfl, HA.out.drops 1⟩
theorem all_new (d : Nat) (w : World) : Calls Try.prog 61 #[.pointer (some ⟨d, 0, none⟩)] w (fun e w' => ∃ nb, e = .returned (.func (.func 91) #[] #[.pointer (some ⟨nb, 0, none⟩)]) ∧ St w none0 w' [cellA nb [.pointer (some ⟨d, 0, none⟩)]]) := by
  have H := (St.zero w).alloc [.pointer (some ⟨d, 0, none⟩)] 24
  replace H := Lib.hid H
  go_enter Try.func61, Try.ntmps61
  go_wp2_with fail
  go_ret
  exact ⟨_, rfl, H.out⟩
theorem all_none (w : World) : Calls Try.prog 61 #[.pointer none] w (fun e w' => ∃ nb, e = .returned (.func (.func 91) #[] #[.pointer (some ⟨nb, 0, none⟩)]) ∧ St w none0 w' [cellA nb [.pointer none]]) := by
  have H := (St.zero w).alloc [.pointer none] 24
  replace H := Lib.hid H
  go_enter Try.func61, Try.ntmps61
  go_wp2_with fail
  go_ret
  exact ⟨_, rfl, H.out⟩
end Go.Proofs.Ytiaefmmcakagpaa.DockSInt
