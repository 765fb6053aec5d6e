/- The walks of a channel: what is sent, what may be received, what is left. -/
import Derived.Test.YthodfihdmhkgeaaDockDg
import Derived.Test.YthodfihdmhkgeaaChanLaw
import Derived.Laws.IdiomCopy
namespace Go.Proofs.Ythodfihdmhkgeaa.Chan
set_option linter.unusedSimpArgs false
set_option linter.unusedVariables false
open Go Go.RowKit Go.Proofs.Ythodfihdmhkgeaa Go.Proofs.Ythodfihdmhkgeaa.DockDg
attribute [local irreducible] Calls

/-- What may be received next. -/
def mayB (last : Int) (l : List El) (d : El) : Bool := decide (last < d.1) && (decide (d.1 ≤ l.length) && dgEq (l.getD (d.1 - 1).toNat (0, ByteArray.empty)) d)
/-- A channel: how far it was received, what was sent. -/
abbrev chanA (c : Nat) (last : Int) (l : List El) : Asn := dockA c last l

theorem cnew_any (w : World) : Calls Try.prog 43 #[] w fun e w' => ∃ c, e = .returned (.pointer (some ⟨c, 0, none⟩)) ∧ St w none0 w' [chanA c 0 []] := by
  go_enter Try.func43, Try.ntmps43
  go_wp2_with fail
  go_ret
  exact ⟨_, rfl, dock_shut (v := .slice none 0 0) (r := []) (((St.zero w).row_nil (size := 2)).alloc [.slice none 0 0, .int .i64 0] _)⟩

section
variable {c : Nat} {last : Int} {l : List El} {w : World} {S : Nat → Prop}
theorem clast_any (h : (chanA c last l).holds w S) : Calls Try.prog 60 #[.pointer (some ⟨c, 0, none⟩)] w (Ret w (.int .i64 last)) := by
  obtain ⟨v, H⟩ := dock_open h
  obtain ⟨z, k, f⟩ := H.box 0 rfl
  clear h H
  go_enter Try.func60, Try.ntmps60
  go_wp2_with fail
  go_ret
  exact Ret.mk rfl (by repeat (first | with_reducible exact Below.refl _ _ | (with_reducible refine Below.al ?_) | (with_reducible refine Below.drew ?_) | (with_reducible refine Below.set ?_ (by first | (simp; done) | omega | (simp; omega))) | (with_reducible refine Below.thru ?_ (by assumption)) | (with_reducible refine Below.chg ?_ (by assumption) (by first | (simp; done) | omega | (simp; omega)))))
set_option maxRecDepth 100000 in
theorem send_any (s : ByteArray) (hsm : l.length ≤ 100000) (h : (chanA c last l).holds w S) :
    Calls Try.prog 44 #[.pointer (some ⟨c, 0, none⟩), .string s] w (Fin w S (.int .i64 ((l.length : Int) + 1)) [chanA c last (l ++ [((l.length : Int) + 1, s)])]) := by
  obtain ⟨i0, hi, hz, hz1, hz2⟩ := info_parts DelDg.el_info
  obtain ⟨v, H⟩ := dock_open h
  obtain ⟨a, cap, rfl, hn, hl, R⟩ := (H.row 1 rfl).rd (by omega)
  obtain ⟨z, k, f⟩ := H.box 0 rfl
  clear h R hl
  replace H := Lib.hid H
  go_enter Try.func44, Try.ntmps44
  go_wp2_with (at_builtin; (refine wpList_appS rfl (.tmp 18) (.tmp 22) _ rfl 32 i0 _ 2 24 Try.underlying22 hi hz hz1 hz2 rfl (by omega) 1 _ l.length _ rfl H.out rfl 1 1 [.int .i64 ((l.length : Int) + 1), .string s] rfl rfl (by simp [Value.oneCell']) (by omega) (by omega) ?_; intro v5 w5 H5; obtain ⟨g5, o5, cp5, hv5⟩ := row_some (H5.row 0 rfl) (by omega); rw [hv5] at H5 ⊢; clear hv5; obtain ⟨z5, k5, f5⟩ := H5.box 1 rfl; replace H5 := Lib.hid H5))
  go_ret
  have H6 := H5.out.set 1 rfl 0 (.slice (some ⟨g5, o5, none⟩) (l.length + 1) cp5) (by simp)
  refine ⟨rfl, dock_shut (v := .slice (some ⟨g5, o5, none⟩) (l.length + 1) cp5) (r := []) ?_⟩
  rw [List.length_append, ← encs_app]
  exact H6
set_option maxRecDepth 100000 in
theorem may_any (d : El) (h0 : 0 ≤ last) (hd : isI64 d.1) (h : (chanA c last l).holds w S) :
    Calls Try.prog 59 #[.pointer (some ⟨c, 0, none⟩), .agg #[.int .i64 d.1, .string d.2]] w (Ret w (.bool (mayB last l d))) := by
  obtain ⟨v, H⟩ := dock_open h
  obtain ⟨a, cap, rfl, hn, hl, R⟩ := (H.row 1 rfl).rd (by omega)
  obtain ⟨z, k, f⟩ := H.box 0 rfl
  obtain ⟨hd0, hd1⟩ := hd
  unfold maxLen at hn
  clear h H hl
  by_cases c1 : last < d.1
  · have q1 : decide (last < d.1) = true := decide_eq_true c1
    by_cases c2 : d.1 ≤ l.length
    · have q2 : decide (d.1 ≤ (l.length : Int)) = true := decide_eq_true c2
      obtain ⟨i, hi, hil⟩ : ∃ i : Nat, d.1 = (i : Int) + 1 ∧ i < l.length := ⟨(d.1 - 1).toNat, by omega, by omega⟩
      obtain ⟨b, off, rfl, hb, hc⟩ := Rd.rows enc_len (by omega) R rfl (by omega)
      have e0 := hc i hil 0 _ rfl
      have e1 := hc i hil 1 _ rfl
      rw [Nat.add_zero] at e0
      have hm : mayB last l d = eqD l[i].1 l[i].2 d.1 d.2 := by
        unfold mayB
        rw [q1, q2, show (d.1 - 1).toNat = i by omega, List.getD_eq_getElem?_getD, List.getElem?_eq_getElem hil, Option.getD_some, Bool.true_and, Bool.true_and]
        rfl
      rw [hm]
      obtain ⟨dn, ds⟩ := d
      simp only at *
      subst hi
      generalize l[i] = y at *
      obtain ⟨yn, ys⟩ := y
      have hlq : i < l.length := hil
      clear hc R hm
      generalize l.length = n at *
      go_enter Try.func59, Try.ntmps59
      go_wp2_with fail
      refine wp_region_near (by kernel_rfl) (by kernel_rfl) ?_
      intro hs
      repeat (go_big_quiet_step (fail))
      refine wpQuiet_nil ?_
      clear hs
      intro w1 hb1
      go_wp2_with fail
      go_ret
      exact Ret.mk rfl (by repeat (first | with_reducible exact Below.refl _ _ | (with_reducible refine Below.al ?_) | (with_reducible refine Below.drew ?_) | (with_reducible refine Below.set ?_ (by first | (simp; done) | omega | (simp; omega))) | (with_reducible refine Below.thru ?_ (by assumption)) | (with_reducible refine Below.chg ?_ (by assumption) (by first | (simp; done) | omega | (simp; omega)))))
    · have q2 : decide (d.1 ≤ (l.length : Int)) = false := decide_eq_false c2
      have hm : mayB last l d = false := by unfold mayB; rw [q1, q2]; rfl
      rw [hm]
      obtain ⟨dn, ds⟩ := d
      simp only at *
      clear R hm
      generalize l.length = n at *
      go_enter Try.func59, Try.ntmps59
      go_wp2_with fail
      refine wp_region_near (by kernel_rfl) (by kernel_rfl) ?_
      intro hs
      repeat (go_big_quiet_step (fail))
      refine wpQuiet_nil ?_
      clear hs
      intro w1 hb1
      go_wp2_with fail
      go_ret
      exact Ret.mk rfl (by repeat (first | with_reducible exact Below.refl _ _ | (with_reducible refine Below.al ?_) | (with_reducible refine Below.drew ?_) | (with_reducible refine Below.set ?_ (by first | (simp; done) | omega | (simp; omega))) | (with_reducible refine Below.thru ?_ (by assumption)) | (with_reducible refine Below.chg ?_ (by assumption) (by first | (simp; done) | omega | (simp; omega)))))
  · have q1 : decide (last < d.1) = false := decide_eq_false c1
    have hm : mayB last l d = false := by unfold mayB; rw [q1]; rfl
    rw [hm]
    obtain ⟨dn, ds⟩ := d
    simp only at *
    clear R hm
    generalize l.length = n at *
    go_enter Try.func59, Try.ntmps59
    go_wp2_with fail
    refine wp_region_near (by kernel_rfl) (by kernel_rfl) ?_
    intro hs
    repeat (go_big_quiet_step (fail))
    refine wpQuiet_nil ?_
    clear hs
    intro w1 hb1
    go_wp2_with fail
    go_ret
    exact Ret.mk rfl (by repeat (first | with_reducible exact Below.refl _ _ | (with_reducible refine Below.al ?_) | (with_reducible refine Below.drew ?_) | (with_reducible refine Below.set ?_ (by first | (simp; done) | omega | (simp; omega))) | (with_reducible refine Below.thru ?_ (by assumption)) | (with_reducible refine Below.chg ?_ (by assumption) (by first | (simp; done) | omega | (simp; omega)))))
end
end Go.Proofs.Ythodfihdmhkgeaa.Chan
