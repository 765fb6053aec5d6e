/- The walks of the answer of Join, and of Strings. -/
import Derived.Test.YtkphbgicffhceaaDoorWordField
namespace Go.Proofs.YtkphbgicffhceaaDoor.Words
set_option linter.unusedSimpArgs false
set_option linter.unusedVariables false
open Go Go.RowKit Go.Proofs.YtkphbgicffhceaaDoor
attribute [local irreducible] Calls

theorem join_snoc (l : List ByteArray) (x : ByteArray) : joinL (l ++ [x]) = if l = [] then x.data.toList else joinL l ++ [32] ++ x.data.toList := by
  unfold joinL
  cases l with
  | nil => simp [Lib.join_one]
  | cons y l =>
    rw [if_neg (by simp), List.map_append, List.map_cons, List.cons_append, Lib.join_cons, List.map_cons, Lib.join_cons]
    unfold Lib.joinTail
    simp
theorem join_take {l : List ByteArray} {j : Nat} (hj : j < l.length) : joinL (l.take (j + 1)) = if j = 0 then l[j].data.toList else joinL (l.take j) ++ [32] ++ l[j].data.toList := by
  rw [List.take_succ_eq_append_getElem hj, join_snoc]
  by_cases h0 : j = 0
  · rw [if_pos h0, if_pos (by rw [h0, List.take_zero])]
  · rw [if_neg h0, if_neg (by intro h; have := congrArg List.length h; rw [List.length_take, List.length_nil] at this; omega)]
theorem join_len : ∀ (n : Nat) (l : List ByteArray), l.length = n → (∀ x ∈ l, x.size ≤ 200) → (joinL l).length ≤ 201 * l.length
  | 0, l, h, _ => by obtain rfl := List.eq_nil_of_length_eq_zero h; decide
  | n + 1, l, h, hb => by
    have hx : l = l.take n ++ [l[n]] := by rw [← List.take_succ_eq_append_getElem (by omega), List.take_of_length_le (by omega)]
    have ih := join_len n (l.take n) (by rw [List.length_take]; omega) fun x hx => hb x (List.mem_of_mem_take hx)
    have hs := hb l[n] (List.getElem_mem _)
    have hs2 : (l[n]).data.toList.length = (l[n]).size := by simp
    rw [hx, join_snoc]
    rw [List.length_take] at ih
    split
    · simp only [List.length_append, List.length_cons, List.length_nil]; omega
    · simp only [List.length_append, List.length_cons, List.length_nil, List.length_take]; omega
theorem strs_at {w : World} {a : Option Addr} {l : List ByteArray} (h : Rd w a (strs l)) {j : Nat} (hj : j < l.length) : ∃ b off, a = some ⟨b, off, none⟩ ∧ b < w.heap.size ∧ w.cell? ⟨b, off + j, none⟩ = some (.string l[j]) := by
  obtain ⟨b, off, e, hb, hc⟩ := h.cons (by unfold strs; intro h; have := congrArg List.length h; rw [List.length_map, List.length_nil] at this; omega)
  exact ⟨b, off, e, hb, hc j _ (by unfold strs; rw [List.getElem?_map, List.getElem?_eq_getElem hj]; rfl)⟩
theorem strL_self (s : ByteArray) : strL s.data.toList = s := rfl
set_option maxRecDepth 100000 in
theorem rjoin_any (l : List ByteArray) (n cap : Nat) (hl : l.length = n) (hn : n ≤ 200) (hb : ∀ x ∈ l, x.size ≤ 200) (a : Option Addr) (w : World) (h : Rd w a (strs l)) :
    Calls Tryd.prog 16 #[.slice a n cap] w (Ret w (.string (strL (joinL l)))) := by
  replace h := Lib.hid h; replace hl := Lib.hid hl; replace hb := Lib.hid hb
  go_enter Tryd.func16, Tryd.ntmps16
  go_wp2_with fail
  go_loopg [3, 4] n (fun g sv i wr => ∃ j : Nat, j ≤ n ∧ Hid (g = n - j) ∧ i = .int .i64 j ∧ sv = .string (strL (joinL (l.take j))) ∧ Below w.heap.size w wr)
  case atStart => exact ⟨0, by omega, Lib.hid rfl, rfl, rfl, (by repeat (first | with_reducible exact Below.refl _ _ | (with_reducible refine Below.al ?_) | (with_reducible refine Below.drew ?_) | (with_reducible refine Below.set ?_ (by first | (simp; done) | omega | (simp; omega))) | (with_reducible refine Below.thru ?_ (by assumption)) | (with_reducible refine Below.chg ?_ (by assumption) (by first | (simp; done) | omega | (simp; omega)))))⟩
  case round =>
    obtain ⟨j, hj, hg, rfl, rfl, hbw⟩ := hrel
    by_cases hlt : j < n
    · have hjl : j < l.length := by have := hl.out; omega
      obtain ⟨b, off, rfl, hbb, e0⟩ := strs_at (h.out.below hbw) hjl
      have hnx := join_take hjl
      have hs := hb.out l[j] (List.getElem_mem hjl)
      have hlen := join_len j (l.take j) (by rw [List.length_take]; omega) fun x hx => hb.out x (List.mem_of_mem_take hx)
      rw [List.length_take] at hlen
      have hsz : (strL (joinL (l.take j))).size ≤ 40200 := by rw [strL_size]; omega
      have q : decide ((j : Int) < (n : Int)) = true := decide_eq_true (by omega)
      by_cases h0 : j = 0
      · rw [if_pos h0] at hnx
        have q0 : decide ((0 : Int) < (j : Int)) = false := decide_eq_false (by omega)
        have q0' : ¬ 0 < j := by omega
        generalize l[j] = x at *
        have e3 : strL (joinL (l.take j)) ++ x = strL (joinL (l.take (j + 1))) := by
          rw [hnx, strL_self, h0, List.take_zero]
          apply ByteArray.ext
          simp [joinL, Lib.join_nil, strL]
        clear hnx hlen
        replace e3 := Lib.hid e3
        replace h0 := Lib.hid h0
        go_wp2_with fail
        go_roundg (n - (j + 1))
        case measure => have := hg.out; omega
        case rel => exact ⟨j + 1, by omega, Lib.hid rfl, by go_num, by rw [e3.out], (by repeat (first | with_reducible exact Below.refl _ _ | (with_reducible refine Below.al ?_) | (with_reducible refine Below.drew ?_) | (with_reducible refine Below.set ?_ (by first | (simp; done) | omega | (simp; omega))) | (with_reducible refine Below.thru ?_ (by assumption)) | (with_reducible refine Below.chg ?_ (by assumption) (by first | (simp; done) | omega | (simp; omega)))))⟩
      · rw [if_neg h0] at hnx
        have q0 : decide ((0 : Int) < (j : Int)) = true := decide_eq_true (by omega)
        have q0' : 0 < j := by omega
        generalize l[j] = x at *
        have e3 : strL (joinL (l.take j)) ++ ⟨#[32]⟩ ++ x = strL (joinL (l.take (j + 1))) := by
          rw [hnx, ← strL_app, ← strL_app, strL_self]
          rfl
        have hsz1 : (ByteArray.mk #[32]).size = 1 := rfl
        have hsz2 : (strL (joinL (l.take j)) ++ ⟨#[32]⟩).size ≤ 40201 := by rw [ByteArray.size_append]; omega
        clear hnx hlen h0
        replace e3 := Lib.hid e3
        go_wp2_with fail
        go_roundg (n - (j + 1))
        case measure => have := hg.out; omega
        case rel => exact ⟨j + 1, by omega, Lib.hid rfl, by go_num, by rw [e3.out], (by repeat (first | with_reducible exact Below.refl _ _ | (with_reducible refine Below.al ?_) | (with_reducible refine Below.drew ?_) | (with_reducible refine Below.set ?_ (by first | (simp; done) | omega | (simp; omega))) | (with_reducible refine Below.thru ?_ (by assumption)) | (with_reducible refine Below.chg ?_ (by assumption) (by first | (simp; done) | omega | (simp; omega)))))⟩
    · obtain rfl : j = n := by omega
      have hall : l.take j = l := List.take_of_length_le (by have := hl.out; omega)
      simp only [hall]
      clear hall
      go_wp2_with fail
      go_ret
      exact Ret.mk rfl (by repeat (first | with_reducible exact Below.refl _ _ | (with_reducible refine Below.al ?_) | (with_reducible refine Below.drew ?_) | (with_reducible refine Below.set ?_ (by first | (simp; done) | omega | (simp; omega))) | (with_reducible refine Below.thru ?_ (by assumption)) | (with_reducible refine Below.chg ?_ (by assumption) (by first | (simp; done) | omega | (simp; omega)))))
set_option maxRecDepth 100000 in
theorem strings_any (l : List ByteArray) (n cap cap' : Nat) (hl : l.length = n) (hn : n ≤ 2000000) (a a' : Option Addr) (w : World) (h : Rd w a (strs l)) (g : Rd w a' (strs l)) :
    Calls Tryd.prog 12 #[.slice a n cap, .slice a' n cap'] w (Ret w (.bool true)) := by
  replace h := Lib.hid h; replace g := Lib.hid g; replace hl := Lib.hid hl
  go_enter Tryd.func12, Tryd.ntmps12
  go_wp2_with fail
  go_loopg [5] n (fun g i wr => ∃ k : Nat, k ≤ n ∧ Hid (g = n - k) ∧ i = .int .i64 k ∧ Below w.heap.size w wr)
  case atStart => exact ⟨0, by omega, Lib.hid rfl, rfl, (by repeat (first | with_reducible exact Below.refl _ _ | (with_reducible refine Below.al ?_) | (with_reducible refine Below.drew ?_) | (with_reducible refine Below.set ?_ (by first | (simp; done) | omega | (simp; omega))) | (with_reducible refine Below.thru ?_ (by assumption)) | (with_reducible refine Below.chg ?_ (by assumption) (by first | (simp; done) | omega | (simp; omega)))))⟩
  case round =>
    obtain ⟨k, hk, hg, rfl, hbw⟩ := hrel
    by_cases hlt : k < n
    · have hkl : k < l.length := by have := hl.out; omega
      obtain ⟨b, off, rfl, hb, e0⟩ := strs_at (h.out.below hbw) hkl
      obtain ⟨b', off', rfl, hb', e0'⟩ := strs_at (g.out.below hbw) hkl
      generalize l[k] = x at *
      go_wp2_with fail
      refine wp_region_near (by kernel_rfl) (by kernel_rfl) ?_
      intro hs
      repeat (go_big_quiet_step (fail))
      refine wpQuiet_nil ?_
      clear hs
      intro w2 hb2
      go_wp2_with fail
      go_roundg (n - (k + 1))
      case measure => have := hg.out; omega
      case rel => exact ⟨k + 1, by omega, Lib.hid rfl, by go_num, (by repeat (first | with_reducible exact Below.refl _ _ | (with_reducible refine Below.al ?_) | (with_reducible refine Below.drew ?_) | (with_reducible refine Below.set ?_ (by first | (simp; done) | omega | (simp; omega))) | (with_reducible refine Below.thru ?_ (by assumption)) | (with_reducible refine Below.chg ?_ (by assumption) (by first | (simp; done) | omega | (simp; omega)))))⟩
    · go_wp2_with fail
      go_ret
      exact Ret.mk rfl (by repeat (first | with_reducible exact Below.refl _ _ | (with_reducible refine Below.al ?_) | (with_reducible refine Below.drew ?_) | (with_reducible refine Below.set ?_ (by first | (simp; done) | omega | (simp; omega))) | (with_reducible refine Below.thru ?_ (by assumption)) | (with_reducible refine Below.chg ?_ (by assumption) (by first | (simp; done) | omega | (simp; omega)))))
end Go.Proofs.YtkphbgicffhceaaDoor.Words
