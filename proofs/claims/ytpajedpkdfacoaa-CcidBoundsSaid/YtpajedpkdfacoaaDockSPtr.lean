
/- The walks of the package dock at a type of elements that lie in one slot. -/
import Derived.Test.YtpajedpkdfacoaaDelPtr
import Derived.Test.YtpajedpkdfacoaaStep
import Derived.Test.YtpajedpkdfacoaaMore
namespace Go.Proofs.Ytpajedpkdfacoaa.DockSPtr
set_option linter.unusedSimpArgs false
set_option linter.unusedVariables false
open Go Go.RowKit Go.Proofs.Ytpajedpkdfacoaa Go.Proofs.Ytpajedpkdfacoaa.DelPtr
attribute [local irreducible] Calls

abbrev El := Option Addr
def enc (x : El) : List Value := [.pointer x]
def val (x : El) : Value := .pointer x
def zero : El := none
def encs (l : List El) : List Value := l.flatMap enc
theorem enc_len (x : El) : (enc x).length = 1 := rfl
theorem encs_len (l : List El) : (encs l).length = l.length * 1 := flat_len enc_len l
theorem encs_app (l : List El) (x : El) : encs l ++ enc x = encs (l ++ [x]) := by simp [encs]
theorem encs_one (l : List El) : ∀ u ∈ encs l, u.oneCell' = true := by
  intro u hu
  obtain ⟨x, _, h⟩ := List.mem_flatMap.1 hu
  have : ∀ u ∈ enc x, u.oneCell' = true := by simp [enc, Value.oneCell']
  exact this u h
theorem encs_drop (l : List El) (k : Nat) : (encs l).drop (k * 1) = encs (l.drop k) := by
  induction k generalizing l with
  | zero => simp
  | succ k ih =>
    cases l with
    | nil => simp [encs]
    | cons x l =>
      have h : encs (x :: l) = enc x ++ encs l := rfl
      rw [h, List.drop_append, enc_len, show (k + 1) * 1 - 1 = k * 1 by omega, ih, List.drop_of_length_le (by rw [enc_len]; omega)]
      rfl
theorem encs_take (l : List El) (k : Nat) : (encs l).take (k * 1) = encs (l.take k) := by
  induction k generalizing l with
  | zero => simp [encs]
  | succ k ih =>
    cases l with
    | nil => simp [encs]
    | cons x l =>
      have h : encs (x :: l) = enc x ++ encs l := rfl
      rw [h, List.take_append, enc_len, show (k + 1) * 1 - 1 = k * 1 by omega, ih, List.take_of_length_le (by rw [enc_len]; omega)]
      rfl

/-- A dock: where it lies, for how many, what waits. -/
def dockA (d : Nat) (most : Int) (l : List El) : Asn := exA fun v => sepA [cellA d [v, .int .i64 most], rowA 1 v l.length (encs l)]
/-- Its parts, in a call that began with it. -/
theorem dock_open {d : Nat} {most : Int} {l : List El} {w : World} {S : Nat → Prop} (h : (dockA d most l).holds w S) : ∃ v, St w S w [cellA d [v, .int .i64 most], rowA 1 v l.length (encs l)] := by
  obtain ⟨v, h⟩ := h
  exact ⟨v, St.start h⟩
theorem dock_shut {W w : World} {S : Nat → Prop} {d : Nat} {most : Int} {l : List El} {v : Value} {r : List Asn} (h : St W S w (cellA d [v, .int .i64 most] :: rowA 1 v l.length (encs l) :: r)) : St W S w (dockA d most l :: r) :=
  St.ex (fun v => sepA [cellA d [v, .int .i64 most], rowA 1 v l.length (encs l)]) v (St.join [cellA d [v, .int .i64 most], rowA 1 v l.length (encs l)] r h)
theorem dock_parts {W w : World} {S : Nat → Prop} {d : Nat} {most : Int} {l : List El} {r : List Asn} (h : St W S w (dockA d most l :: r)) : ∃ v, St W S w (cellA d [v, .int .i64 most] :: rowA 1 v l.length (encs l) :: r) := by
  obtain ⟨v, h⟩ := St.unex 0 h rfl
  exact ⟨v, St.unsep 0 h rfl⟩

theorem new_any (most : Int) (w : World) : Calls Try.prog 94 #[.int .i64 most] w fun e w' => ∃ d, e = .returned (.pointer (some ⟨d, 0, none⟩)) ∧ St w none0 w' [dockA d (min (max most 0) 1000) []] := by
  go_enter Try.func94, Try.ntmps94
  go_wp2_with fail
  go_ret
  exact ⟨_, rfl, dock_shut (v := .slice none 0 0) (r := []) (((St.zero w).row_nil (size := 1)).alloc [.slice none 0 0, .int .i64 (min (max most 0) 1000)] _)⟩

theorem len_any (d : Nat) (most : Int) (l : List El) (w : World) (S : Nat → Prop) (h : (dockA d most l).holds w S) : Calls Try.prog 112 #[.pointer (some ⟨d, 0, none⟩)] w (Ret w (.int .i64 l.length)) := by
  obtain ⟨v, H⟩ := dock_open h
  obtain ⟨a, cap, rfl, hn, hl, R⟩ := (H.row 1 rfl).rd (by omega)
  obtain ⟨z, c, f⟩ := H.box 0 rfl
  clear h H R hl
  go_enter Try.func112, Try.ntmps112
  go_wp2_with fail
  go_ret
  exact Ret.mk rfl (by repeat (first | with_reducible exact Below.refl _ _ | (with_reducible refine Below.al ?_) | (with_reducible refine Below.drew ?_) | (with_reducible refine Below.set ?_ (by first | (simp; done) | omega | (simp; omega))) | (with_reducible refine Below.thru ?_ (by assumption)) | (with_reducible refine Below.chg ?_ (by assumption) (by first | (simp; done) | omega | (simp; omega)))))
theorem len_none (w : World) : Calls Try.prog 112 #[.pointer none] w (Ret w (.int .i64 0)) := by
  go_enter Try.func112, Try.ntmps112
  go_wp2_with fail
  go_ret
  exact Ret.mk rfl (by repeat (first | with_reducible exact Below.refl _ _ | (with_reducible refine Below.al ?_) | (with_reducible refine Below.drew ?_) | (with_reducible refine Below.set ?_ (by first | (simp; done) | omega | (simp; omega))) | (with_reducible refine Below.thru ?_ (by assumption)) | (with_reducible refine Below.chg ?_ (by assumption) (by first | (simp; done) | omega | (simp; omega)))))
theorem full_any (d : Nat) (most : Int) (l : List El) (w : World) (S : Nat → Prop) (h : (dockA d most l).holds w S) : Calls Try.prog 137 #[.pointer (some ⟨d, 0, none⟩)] w (Ret w (.bool (decide (most ≤ l.length)))) := by
  obtain ⟨v, H⟩ := dock_open h
  obtain ⟨a, cap, rfl, hn, hl, R⟩ := (H.row 1 rfl).rd (by omega)
  obtain ⟨z, c, f⟩ := H.box 0 rfl
  clear h H R hl
  go_enter Try.func137, Try.ntmps137
  go_wp2_with fail
  refine wp_region_near (by kernel_rfl) (by kernel_rfl) ?_
  intro hs
  repeat (go_big_quiet_step (fail))
  refine wpQuiet_nil ?_
  clear hs
  intro w1 hb1
  go_wp2_with fail
  go_ret
  exact Ret.mk rfl (by repeat (first | with_reducible exact Below.refl _ _ | (with_reducible refine Below.al ?_) | (with_reducible refine Below.drew ?_) | (with_reducible refine Below.set ?_ (by first | (simp; done) | omega | (simp; omega))) | (with_reducible refine Below.thru ?_ (by assumption)) | (with_reducible refine Below.chg ?_ (by assumption) (by first | (simp; done) | omega | (simp; omega)))))
def headV (l : List El) : El := l.headD zero
theorem row_some {w : World} {base size n : Nat} {v : Value} {xs : List Value} (h : Own w base size v n xs) (hn : 0 < n) : ∃ g o cap, v = .slice (some ⟨g, o, none⟩) n cap := by
  rcases h.2 with ⟨_, e⟩ | ⟨g, o, cap, e, _⟩
  · omega
  · exact ⟨g, o, cap, e⟩

set_option maxRecDepth 100000 in
theorem push_any (d : Nat) (most : Int) (l : List El) (x : El) (w : World) (S : Nat → Prop) (h : (dockA d most l).holds w S) (hsm : l.length ≤ 100000) :
    Calls Try.prog 119 #[.pointer (some ⟨d, 0, none⟩), val x] w (Fin w S (.bool (decide ((l.length : Int) < most))) [dockA d most (if (l.length : Int) < most then l ++ [x] else l)]) := by
  obtain ⟨i0, hi, hz, hz1, hz2⟩ := info_parts el_info
  have P1 := full_any d most l w S h
  obtain ⟨v, H⟩ := dock_open h
  obtain ⟨a, cap, rfl, hn, hl, R⟩ := (H.row 1 rfl).rd (by omega)
  obtain ⟨z, c, f⟩ := H.box 0 rfl
  have h' := St.start (Sep.one h)
  clear h R hl
  unfold val
  replace H := Lib.hid H; replace h' := Lib.hid h'; replace P1 := Lib.hid P1
  by_cases hlt : (l.length : Int) < most
  · have q : decide (most ≤ (l.length : Int)) = false := decide_eq_false (by omega)
    have q2 : decide ((l.length : Int) < most) = true := decide_eq_true hlt
    rw [q2, if_pos hlt]
    go_enter Try.func119, Try.ntmps119
    go_wp2_with fail
    refine Calls.mono (P1.out) ?_
    rintro e w1 ⟨rfl, hb1⟩
    have z1 := Below.size hb1; try simp only [World.size_alloc, World.size_setCell, World.size_drew] at z1
    obtain ⟨c1_0, f1_0⟩ := Below.blk hb1 (b := d) (by first | (simp; done) | omega | (simp; omega))
    have z1_0 : d < w1.heap.size := (by first | (simp; done) | omega | (simp; omega))
    have H1 := H.out.thru hb1
    clear P1
    replace H1 := Lib.hid H1
    go_wp2_with (at_builtin; (refine wpList_appS rfl (.tmp 15) (.tmp 17) _ rfl 146 i0 _ 1 8 Try.underlying160 hi hz hz1 hz2 rfl (by omega) 1 _ l.length (encs l) rfl H1.out rfl 1 1 [.pointer x] rfl rfl (by simp [Value.oneCell']) (by omega) (by omega) ?_; intro v5 w5 H5; obtain ⟨g5, o5, c5, rfl⟩ := row_some (H5.row 0 rfl) (by omega); obtain ⟨z5, k5, f5⟩ := H5.box 1 rfl; replace H5 := Lib.hid H5))
    go_ret
    have H6 := H5.out.set 1 rfl 0 (.slice (some ⟨g5, o5, none⟩) (l.length + 1) c5) (by simp)
    refine ⟨rfl, dock_shut (v := .slice (some ⟨g5, o5, none⟩) (l.length + 1) c5) (r := []) ?_⟩
    rw [List.length_append, ← encs_app]
    exact H6
  · have q : decide (most ≤ (l.length : Int)) = true := decide_eq_true (by omega)
    have q2 : decide ((l.length : Int) < most) = false := decide_eq_false hlt
    rw [q2, if_neg hlt]
    go_enter Try.func119, Try.ntmps119
    go_wp2_with fail
    refine Calls.mono (P1.out) ?_
    rintro e w1 ⟨rfl, hb1⟩
    have z1 := Below.size hb1; try simp only [World.size_alloc, World.size_setCell, World.size_drew] at z1
    obtain ⟨c1_0, f1_0⟩ := Below.blk hb1 (b := d) (by first | (simp; done) | omega | (simp; omega))
    have z1_0 : d < w1.heap.size := (by first | (simp; done) | omega | (simp; omega))
    go_wp2_with fail
    go_ret
    exact ⟨rfl, h'.out.thru hb1⟩
theorem push_none (x : El) (w : World) : Calls Try.prog 119 #[.pointer none, val x] w (Ret w (.bool false)) := by
  unfold val
  go_enter Try.func119, Try.ntmps119
  go_wp2_with fail
  go_ret
  exact Ret.mk rfl (by repeat (first | with_reducible exact Below.refl _ _ | (with_reducible refine Below.al ?_) | (with_reducible refine Below.drew ?_) | (with_reducible refine Below.set ?_ (by first | (simp; done) | omega | (simp; omega))) | (with_reducible refine Below.thru ?_ (by assumption)) | (with_reducible refine Below.chg ?_ (by assumption) (by first | (simp; done) | omega | (simp; omega)))))
end Go.Proofs.Ytpajedpkdfacoaa.DockSPtr
