
/- The walks of the package dock at a type of elements that lie in one slot: Spill, All, Clone. -/
import Derived.Test.YtpajedpkdfacoaaDockSPtr
namespace Go.Proofs.Ytpajedpkdfacoaa.DockSPtr
set_option linter.unusedSimpArgs false
set_option linter.unusedVariables false
open Go Go.RowKit Go.Proofs.Ytpajedpkdfacoaa Go.Proofs.Ytpajedpkdfacoaa.DelPtr
attribute [local irreducible] Calls

set_option maxRecDepth 100000 in
/-- A slice laid anew. -/
theorem clone_any (l : List El) (a : Option Addr) (cap : Nat) (w : World) (h : Rd w a (encs l)) (h0 : a = none → l.length = 0) (hn : l.length ≤ 100000) (hc : a = none → cap = 0) :
    Calls Try.prog 143 #[.slice a l.length cap] w (fun e w' => ∃ v, e = .returned v ∧ St w none0 w' [rowA 1 v l.length (encs l)]) := by
  obtain ⟨i0, hi, hz, hz1, hz2⟩ := info_parts el_info
  have hsn := run_eql_snil (P := Try.prog) 160 _ Try.underlying160
  cases a with
  | none =>
    obtain rfl : l = [] := List.eq_nil_of_length_eq_zero (h0 rfl)
    obtain rfl := hc rfl
    clear h h0 hc
    go_enter Try.func143, Try.ntmps143
    go_wp2_with fail
    go_ret
    exact ⟨_, rfl, (St.zero w).row_nil⟩
  | some a =>
    have E1 := (St.zero w).alloc [] 146
    have E2 := E1.row_empty (size := 1) 0 rfl
    have hr := h.of_st E2
    clear h E1
    replace E2 := Lib.hid E2; replace hr := Lib.hid hr
    go_enter Try.func143, Try.ntmps143
    go_wp2_with (at_builtin; (refine wpList_appRd rfl (.tmp 5) (.tmp 6) _ rfl 146 i0 _ 1 8 Try.underlying160 hi hz hz1 hz2 rfl (by omega) 0 _ 0 [] rfl E2.out rfl _ l.length cap (encs l) rfl (encs_len l) hr.out (fun e => by cases e) (encs_one l) (by omega) (by omega) ?_; intro wv5 w5 HA; simp only [Nat.zero_add, List.nil_append] at HA; replace HA := Lib.hid HA))
    go_ret
    exact ⟨_, rfl, HA.out.drops 1⟩
theorem all_new (d : Nat) (w : World) : Calls Try.prog 136 #[.pointer (some ⟨d, 0, none⟩)] w (fun e w' => ∃ nb, e = .returned (.func (.func 142) #[] #[.pointer (some ⟨nb, 0, none⟩)]) ∧ St w none0 w' [cellA nb [.pointer (some ⟨d, 0, none⟩)]]) := by
  have H := (St.zero w).alloc [.pointer (some ⟨d, 0, none⟩)] 144
  replace H := Lib.hid H
  go_enter Try.func136, Try.ntmps136
  go_wp2_with fail
  go_ret
  exact ⟨_, rfl, H.out⟩
theorem all_none (w : World) : Calls Try.prog 136 #[.pointer none] w (fun e w' => ∃ nb, e = .returned (.func (.func 142) #[] #[.pointer (some ⟨nb, 0, none⟩)]) ∧ St w none0 w' [cellA nb [.pointer none]]) := by
  have H := (St.zero w).alloc [.pointer none] 144
  replace H := Lib.hid H
  go_enter Try.func136, Try.ntmps136
  go_wp2_with fail
  go_ret
  exact ⟨_, rfl, H.out⟩
end Go.Proofs.Ytpajedpkdfacoaa.DockSPtr
