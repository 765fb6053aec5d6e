
/- The walks of the package dock at a type of struct elements: Clone, All. -/
import Derived.Test.YtiaefmmcakagpaaDockNWait
import Derived.Test.YtiaefmmcakagpaaMore
namespace Go.Proofs.Ytiaefmmcakagpaa.DockWait
set_option linter.unusedSimpArgs false
set_option linter.unusedVariables false
open Go Go.RowKit Go.Proofs.Ytiaefmmcakagpaa Go.Proofs.Ytiaefmmcakagpaa.DelWait
attribute [local irreducible] Calls

set_option maxRecDepth 100000 in
/-- A slice laid anew. -/
theorem clone_any (l : List El) (a : Option Addr) (cap : Nat) (w : World) (h : Rd w a (encs l)) (h0 : a = none → l.length = 0) (hn : l.length ≤ 100000) (hc : a = none → cap = 0) :
    Calls Try.prog 101 #[.slice a l.length cap] w (fun e w' => ∃ v, e = .returned v ∧ St w none0 w' [rowA 3 v l.length (encs l)]) := by
  obtain ⟨i0, hi, hz, hz1, hz2⟩ := info_parts el_info
  have hsn := run_eql_snil (P := Try.prog) 125 _ Try.underlying125
  cases a with
  | none =>
    obtain rfl : l = [] := List.eq_nil_of_length_eq_zero (h0 rfl)
    obtain rfl := hc rfl
    clear h h0 hc
    go_enter Try.func101, Try.ntmps101
    go_wp2_with fail
    go_ret
    exact ⟨_, rfl, (St.zero w).row_nil⟩
  | some a =>
    have E1 := (St.zero w).alloc [] 98
    have E2 := E1.row_empty (size := 3) 0 rfl
    have hr := h.of_st E2
    clear h E1
    replace E2 := Lib.hid E2; replace hr := Lib.hid hr
    go_enter Try.func101, Try.ntmps101
    go_wp2_with (at_builtin; (refine wpList_appRd rfl (.tmp 5) (.tmp 6) _ rfl 98 i0 _ 3 32 Try.underlying125 hi hz hz1 hz2 rfl (by omega) 0 _ 0 [] rfl E2.out rfl _ l.length cap (encs l) rfl (encs_len l) hr.out (fun e => by cases e) (encs_one l) (by omega) (by omega) ?_; intro wv5 w5 HA; simp only [Nat.zero_add, List.nil_append] at HA; replace HA := Lib.hid HA))
    go_ret
    exact ⟨_, rfl, HA.out.drops 1⟩
theorem all_new (d : Nat) (w : World) : Calls Try.prog 71 #[.pointer (some ⟨d, 0, none⟩)] w (fun e w' => ∃ nb, e = .returned (.func (.func 100) #[] #[.pointer (some ⟨nb, 0, none⟩)]) ∧ St w none0 w' [cellA nb [.pointer (some ⟨d, 0, none⟩)]]) := by
  have H := (St.zero w).alloc [.pointer (some ⟨d, 0, none⟩)] 95
  replace H := Lib.hid H
  go_enter Try.func71, Try.ntmps71
  go_wp2_with fail
  go_ret
  exact ⟨_, rfl, H.out⟩
theorem all_none (w : World) : Calls Try.prog 71 #[.pointer none] w (fun e w' => ∃ nb, e = .returned (.func (.func 100) #[] #[.pointer (some ⟨nb, 0, none⟩)]) ∧ St w none0 w' [cellA nb [.pointer none]]) := by
  have H := (St.zero w).alloc [.pointer none] 95
  replace H := Lib.hid H
  go_enter Try.func71, Try.ntmps71
  go_wp2_with fail
  go_ret
  exact ⟨_, rfl, H.out⟩
end Go.Proofs.Ytiaefmmcakagpaa.DockWait
