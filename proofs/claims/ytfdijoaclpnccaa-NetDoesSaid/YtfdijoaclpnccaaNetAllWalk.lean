/- The walk of the statement NetAll. -/
import Derived.Test.YtfdijoaclpnccaaNetAll
namespace Go.Proofs.Ytfdijoaclpnccaa.Net
set_option linter.unusedSimpArgs false
set_option linter.unusedVariables false
open Go Go.RowKit Go.Proofs.Ytfdijoaclpnccaa Go.Proofs.Ytfdijoaclpnccaa.DelUn
attribute [local irreducible] Calls

theorem fits_cap {w : World} {n : Nat} {e : Sh} {a : Option Addr} {len cap : Nat} (h : Fits w (.slice n e) [.slice a len cap]) : len ≤ cap ∧ cap ≤ maxLen := by
  rcases h with h | ⟨x, l, c, h, hl, hc, hi⟩
  · simp at h
    obtain ⟨rfl, rfl, rfl⟩ := h
    exact ⟨Nat.le_refl _, Nat.zero_le _⟩
  · simp at h
    obtain ⟨rfl, rfl, rfl⟩ := h
    exact ⟨hl, hc⟩
theorem Rd.pre {w : World} {a : Option Addr} {xs : List Value} (h : Rd w a xs) (k : Nat) : Rd w a (xs.take k) := by
  rcases h with h | ⟨b, off, e, hb, hc⟩
  · subst h; exact .inl (by simp)
  · exact .inr ⟨b, off, e, hb, fun j u hu => hc j u (by
      have hj : j < k := by
        have := (List.getElem?_eq_some_iff.1 hu).1
        rw [List.length_take] at this
        omega
      rwa [List.getElem?_take_of_lt hj] at hu)⟩
theorem unl_in {w : World} {a : Option Addr} {len cap : Nat} (h : Fits w (.slice 4 (.cons 1 (.int .i64) (.cons 2 (.cons 1 (.int .i64) (.cons 1 (.int .i64) .nil)) (.cons 1 .str .nil)))) [.slice a len cap]) :
    len ≤ maxLen ∧ (a = none → len = 0) ∧ ∃ l : List Un, l.length = len ∧ (∀ x ∈ l, x.dat.size ≤ maxLen) ∧ Rd w a (uns l) :=
  rows_in (size := 4) encU (by omega) enc_len (fun cs hf _ => by
    obtain ⟨x, e, hx⟩ := un_in hf
    exact ⟨x, e.symm, hx⟩) h
theorem put_take (L : List Un) (j : Nat) (hj : j < L.length) : (if (L.take (min j 200)).length < 200 then L.take (min j 200) ++ [L[j]] else L.take (min j 200)) = L.take (min (j + 1) 200) := by
  by_cases h : j < 200
  · rw [if_pos (by rw [List.length_take]; omega), Nat.min_eq_left (by omega), Nat.min_eq_left (by omega)]
    exact (List.take_succ_eq_append_getElem hj).symm
  · rw [if_neg (by rw [List.length_take]; omega), Nat.min_eq_right (by omega), Nat.min_eq_right (by omega)]
theorem all_new (d : Nat) (w : World) : Calls Try.prog 30 #[.pointer (some ⟨d, 0, none⟩)] w (fun e w' => ∃ nb, e = .returned (.func (.func 78) #[] #[.pointer (some ⟨nb, 0, none⟩)]) ∧ St w none0 w' [cellA nb [.pointer (some ⟨d, 0, none⟩)]]) := by
  have H := (St.zero w).alloc [.pointer (some ⟨d, 0, none⟩)] 25
  replace H := Lib.hid H
  go_enter Try.func30, Try.ntmps30
  go_wp2_with fail
  go_ret
  exact ⟨_, rfl, H.out⟩
set_option maxRecDepth 100000 in
set_option maxHeartbeats 800000 in
theorem all_walk (a : Option Addr) (n cap : Nat) (far : Int) (wf : (Lit.int .i64 far).wf = true) (w : World) (h0 : Fits w (.slice 4 (.cons 1 (.int .i64) (.cons 2 (.cons 1 (.int .i64) (.cons 1 (.int .i64) .nil)) (.cons 1 .str .nil)))) [.slice a n cap]) :
    Calls Try.prog 5 #[.slice a n cap, .int .i64 far] w (Ret w (.bool true)) := by
  obtain ⟨hn, _, L, hl, hgood, hL⟩ := unl_in h0
  obtain ⟨hcap, hcm⟩ := fits_cap h0
  have hfar := bounds_i64 wf
  unfold maxLen at hn hcm
  have H0 := (St.zero w).alloc [.int .i64 far] 3
  clear h0 wf
  replace hl := Lib.hid hl; replace hL := Lib.hid hL; replace hgood := Lib.hid hgood; replace H0 := Lib.hid H0
  go_enter Try.func5, Try.ntmps5
  go_wp2_with fail
  refine Calls.mono (works_law _) ?_
  rintro e w1 ⟨rfl, hb1⟩
  have z1 := Below.size hb1; try simp only [World.size_alloc, World.size_setCell, World.size_drew] at z1
  have H1 := H0.out.thru hb1
  replace H1 := Lib.hid H1
  by_cases h300 : 300 < n
  · have q : decide ((300 : Int) < n) = true := decide_eq_true (by omega)
    go_wp2_with fail
    go_ret
    exact H1.out.ret rfl
  have qq : decide ((300 : Int) < n) = false := decide_eq_false (by omega)
  have q300 : n ≤ 300 := by omega
  go_wp2_with fail
  refine Calls.mono (new_any _) ?_
  rintro e w2 ⟨d, rfl, H2⟩
  have H2' : St w none0 w2 [netA d [], cellA w.heap.size [.int .i64 far]] := H1.out.add H2
  clear H2 H1 H0
  replace H2' := Lib.hid H2'
  go_wp2_with fail
  go_loopg [6] n (fun g i wr => ∃ j : Nat, j ≤ n ∧ g = n - j ∧ i = .int .i64 j ∧ St w none0 wr [netA d (L.take (min j 200)), cellA w.heap.size [.int .i64 far]])
  case atStart => exact ⟨0, by omega, by omega, rfl, H2'.out⟩
  case round =>
    obtain ⟨j, hj, hg, rfl, hst⟩ := hrel
    by_cases hlt : j < n
    · have hjl : j < L.length := by have := hl.out; omega
      obtain ⟨b, off, rfl, hb, hc⟩ := uns_at (hL.out.below hst.below) hl.out (by omega)
      obtain ⟨e0, e1, e2, e3⟩ := hc j hjl
      have P1 := Calls.st_at 0 hst rfl fun S h => put_any d (L.take (min j 200)) L[j] _ S h
      rw [put_take L j hjl] at P1
      unfold valU at P1
      clear hc
      generalize L[j] = u at *
      by_cases hs : 1000 < u.dat.size
      · have s1 : decide ((1000 : Int) < u.dat.size) = true := decide_eq_true (by omega)
        replace hst := Lib.hid hst
        clear P1
        go_wp2_with fail
        go_ret
        exact hst.out.ret rfl
      · have s1 : decide ((1000 : Int) < u.dat.size) = false := decide_eq_false (by omega)
        replace hst := Lib.hid hst; replace P1 := Lib.hid P1
        go_wp2_with fail
        refine Calls.mono P1.out ?_
        rintro e w3 ⟨rfl, H3⟩
        clear P1
        replace H3 := Lib.hid H3
        go_wp2_with fail
        go_roundg (n - (j + 1))
        case measure => omega
        case rel => exact ⟨j + 1, by omega, rfl, by go_num, H3.out⟩
    · obtain rfl : j = n := by omega
      have hLl := hl.out
      have H3 := (hst.row_nil (size := 4)).alloc [.slice none 0 0] 27
      have zs := hst.size
      clear hst H2'
      replace H3 := Lib.hid H3
      go_wp2_with fail
      refine Calls.mono (all_new d _) ?_
      rintro e w4 ⟨nb, rfl, H4⟩
      have H5 := H3.out.add H4
      have H6 : St w none0 w4 [cellA nb [.pointer (some ⟨d, 0, none⟩)], cellA wr.heap.size [.slice none 0 0], rowA 4 (.slice none 0 0) 0 [], netA d (L.take (min j 200)), cellA w.heap.size [.int .i64 far]] := H5
      have H7 : St w none0 w4 [gotA wr.heap.size w.heap.size far [], cellA nb [.pointer (some ⟨d, 0, none⟩)], netA d (L.take (min j 200))] := got_shut (v := .slice none 0 0) ((((H6.front 4 rfl).front 3 rfl).front 3 rfl))
      have nf := run_eql_func (P := Try.prog) 51 (by kernel_rfl)
      clear H3 H4 H5 H6
      have H8 := St.all ((H7.front 2 rfl).front 2 rfl)
      obtain ⟨S8, h8, hs8, hback⟩ := H8.at 0 rfl
      have P8 := each_any d nb wr.heap.size w.heap.size far (L.take (min j 200)) (by rw [List.length_take]; omega) _ S8 h8
      replace P8 := Lib.hid P8; replace hback := Lib.hid hback
      clear H7 H8 h8
      go_wp2_with fail
      refine Calls.mono P8.out ?_
      rintro e w5 ⟨⟨ve, rfl⟩, H9⟩
      have H10 := hback.out _ _ H9
      clear hback H9 P8
      obtain ⟨v, H11⟩ := got_parts H10
      obtain ⟨M, hM⟩ : ∃ M : Nat, M = min j 200 := ⟨_, rfl⟩
      rw [← hM] at H11
      obtain ⟨K, hK⟩ : ∃ K : Nat, K = ((L.take M).take (max far 1).toNat).length := ⟨_, rfl⟩
      have hR : Rd w5 a (uns ((L.take M).take (max far 1).toNat)) := by
        rw [← uns_take, ← uns_take]
        exact Rd.pre (Rd.pre (hL.out.of_st H11) _) _
      rw [← hK] at H11
      have hK2 : K = min (max far 1).toNat M := by rw [hK, List.length_take, List.length_take]; omega
      obtain ⟨a', cap', rfl, hn', hl', R'⟩ := (H11.row 1 rfl).rd (by omega)
      have m1 : min (j : Int) 200 = (M : Int) := by omega
      have m2 : min (M : Int) (max far 1) = (K : Int) := by omega
      have hMc : M ≤ cap := by omega
      have hKc : K ≤ cap := by omega
      have hKM : K ≤ M := by omega
      obtain ⟨z1, c1, f1⟩ := H11.box 0 rfl
      obtain ⟨z2, c2, f2⟩ := H11.box 2 rfl
      have PS := fun W (h : Below w5.heap.size w5 W) => same_any _ K hK.symm hn' a' cap' a cap W (R'.below h) (hR.below h)
      clear H10 hl' R' hR hK hM hK2 hl nf
      generalize (L.take M).take (max far 1).toNat = XS at *
      replace H11 := Lib.hid H11; replace PS := Lib.hid PS
      clear hL
      go_wp2_with fail
      refine wp_region_near (by kernel_rfl) (by kernel_rfl) ?_
      intro hs
      repeat (go_big_quiet_step ((go_at_call 26; exact Calls.near (by simp) (PS.out _ (Near.near _)))))
      refine wpQuiet_nil ?_
      clear hs
      intro w6 hb6
      have H12 := H11.out.thru hb6
      replace H12 := Lib.hid H12
      go_wp2_with fail
      go_ret
      exact H12.out.ret rfl
end Go.Proofs.Ytfdijoaclpnccaa.Net
