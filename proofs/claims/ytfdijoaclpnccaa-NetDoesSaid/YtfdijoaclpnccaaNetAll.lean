/- The walk of the statement NetAll. -/
import Derived.Test.YtfdijoaclpnccaaNetAllOf
import Derived.Test.YtfdijoaclpnccaaMore
namespace Go.Proofs.Ytfdijoaclpnccaa.Net
set_option linter.unusedSimpArgs false
set_option linter.unusedVariables false
open Go Go.RowKit Go.Proofs.Ytfdijoaclpnccaa Go.Proofs.Ytfdijoaclpnccaa.DelUn
attribute [local irreducible] Calls

/-- What was told so far, in a variable of its own, and how far. -/
def gotA (gb fb : Nat) (far : Int) (xs : List Un) : Asn := exA fun v => sepA [cellA gb [v], rowA 4 v xs.length (uns xs), cellA fb [.int .i64 far]]
theorem got_parts {W w : World} {S : Nat → Prop} {gb fb : Nat} {far : Int} {xs : List Un} {r : List Asn} (h : St W S w (gotA gb fb far xs :: r)) : ∃ v, St W S w (cellA gb [v] :: rowA 4 v xs.length (uns xs) :: cellA fb [.int .i64 far] :: r) := by
  obtain ⟨v, h⟩ := St.unex 0 h rfl
  exact ⟨v, St.unsep 0 h rfl⟩
theorem got_shut {W w : World} {S : Nat → Prop} {gb fb : Nat} {far : Int} {xs : List Un} {v : Value} {r : List Asn} (h : St W S w (cellA gb [v] :: rowA 4 v xs.length (uns xs) :: cellA fb [.int .i64 far] :: r)) : St W S w (gotA gb fb far xs :: r) :=
  St.ex (fun v => sepA [cellA gb [v], rowA 4 v xs.length (uns xs), cellA fb [.int .i64 far]]) v (St.join [cellA gb [v], rowA 4 v xs.length (uns xs), cellA fb [.int .i64 far]] r h)

set_option maxRecDepth 100000 in
theorem tell_any (gb fb : Nat) (far : Int) (xs : List Un) (x : Un) (w : World) (S : Nat → Prop) (h : (gotA gb fb far xs).holds w S) (hsm : xs.length ≤ 100000) :
    Calls Try.prog 31 #[valU x, .pointer (some ⟨gb, 0, none⟩), .pointer (some ⟨fb, 0, none⟩)] w (Fin w S (.bool (decide ((xs.length : Int) + 1 < far))) [gotA gb fb far (xs ++ [x])]) := by
  obtain ⟨i0, hi, hz, hz1, hz2⟩ := info_parts el_info
  obtain ⟨v, H⟩ := got_parts (St.start (Sep.one h))
  obtain ⟨x0, x1, x2, x3⟩ := x
  have H1 := ((H.alloc [.int .i64 x0, .int .i64 x1, .int .i64 x2, .string x3] 31).drop 0 rfl).alloc [.int .i64 x0, .int .i64 x1, .int .i64 x2, .string x3] 31
  clear H1
  have H1 := H.skip (.cells #[.int .i64 x0, .int .i64 x1, .int .i64 x2, .string x3] 31)
  obtain ⟨z, c, f⟩ := H.box 0 rfl
  obtain ⟨zf, cf, ff⟩ := H.box 2 rfl
  clear H h
  unfold valU
  simp only
  replace H1 := Lib.hid H1
  go_enter Try.func31, Try.ntmps31
  go_wp2_with (at_builtin; (refine wpList_appS rfl (.tmp 5) (.tmp 7) _ rfl 31 i0 _ 4 40 Try.underlying27 hi hz hz1 hz2 rfl (by omega) 1 v xs.length (uns xs) rfl H1.out rfl 1 1 [.int .i64 x0, .int .i64 x1, .int .i64 x2, .string x3] rfl rfl (by simp [Value.oneCell']) (by omega) (by omega) ?_; intro wv5 w5 H5; obtain ⟨g5, o5, c5, rfl⟩ := row_some (H5.row 0 rfl) (by omega); obtain ⟨z5, k5, f5⟩ := H5.box 1 rfl; obtain ⟨z6, k6, f6⟩ := H5.box 2 rfl; have n1 : ¬ gb = fb := H5.ne_cells 1 2 rfl rfl (by decide); replace H5 := Lib.hid H5))
  go_ret
  have H6 := H5.out.set 1 rfl 0 (.slice (some ⟨g5, o5, none⟩) (xs.length + 1) c5) (by simp)
  refine ⟨by go_num, got_shut (v := .slice (some ⟨g5, o5, none⟩) (xs.length + 1) c5) (r := []) ?_⟩
  rw [List.length_append, ← uns_app]
  exact H6

theorem take_stop {far : Int} {j : Nat} (h : j = 0 ∨ (j : Int) < far) (hs : ¬ (j : Int) + 1 < far) : (max far 1).toNat = j + 1 := by omega
set_option maxRecDepth 100000 in
set_option maxHeartbeats 400000 in
theorem each_any (d nb gb fb : Nat) (far : Int) (l : List Un) (hl2 : l.length ≤ 200) (w : World) (S : Nat → Prop) (h : (sepA [cellA nb [.pointer (some ⟨d, 0, none⟩)], netA d l, gotA gb fb far []]).holds w S) :
    Calls Try.prog 78 #[.func (.func 31) #[] #[.pointer (some ⟨gb, 0, none⟩), .pointer (some ⟨fb, 0, none⟩)], .pointer (some ⟨nb, 0, none⟩)] w (fun e w' => (∃ v, e = .returned v) ∧ St w S w' [gotA gb fb far (l.take (max far 1).toNat), cellA nb [.pointer (some ⟨d, 0, none⟩)], netA d l]) := by
  have H0 := (St.unsep 0 (St.start (Sep.one h)) rfl).front 2 rfl
  simp only [List.nil_append, List.cons_append, List.eraseIdx_cons_succ, List.eraseIdx_cons_zero] at H0
  clear h
  have P0 := Calls.rd_at 2 H0 rfl fun S h => len_any d l _ S h
  obtain ⟨z0, c0, f0⟩ := H0.box 1 rfl
  replace P0 := Lib.hid P0; replace H0 := Lib.hid H0
  go_enter Try.func78, Try.ntmps78
  go_wp2_with fail
  refine Calls.mono P0.out ?_
  rintro e w1 ⟨rfl, H1⟩
  replace H1 := Lib.hid H1
  clear P0
  go_wp2_with fail
  go_loopg [3, 6] l.length (fun g _ i wr => ∃ j : Nat, j ≤ l.length ∧ g = l.length - j ∧ i = .int .i64 j ∧ (j = 0 ∨ (j : Int) < far) ∧ St w S wr [gotA gb fb far (l.take j), cellA nb [.pointer (some ⟨d, 0, none⟩)], netA d l])
  case atStart => exact ⟨0, by omega, by omega, rfl, .inl rfl, H1.out⟩
  case round =>
    obtain ⟨j, hj, hg, rfl, hfar, hst⟩ := hrel
    by_cases hlt : j < l.length
    · have P1 := Calls.st_at 0 hst rfl fun S h => tell_any gb fb far (l.take j) l[j] _ S h (by rw [List.length_take]; omega)
      have htk : l.take j ++ [l[j]] = l.take (j + 1) := (List.take_succ_eq_append_getElem hlt).symm
      have hlj : (l.take j).length = j := by rw [List.length_take]; omega
      rw [htk, hlj] at P1
      obtain ⟨v, H2⟩ := net_parts (hst.front 2 rfl)
      obtain ⟨a, cap, rfl, hn, hl, R⟩ := (H2.row 1 rfl).rd (by omega)
      obtain ⟨b, off, rfl, hb, hc⟩ := uns_at R rfl (by omega)
      obtain ⟨e0, e1, e2, e3⟩ := hc j hlt
      obtain ⟨zd, cd, fd⟩ := H2.box 0 rfl
      obtain ⟨zn, cn, fn⟩ := H2.box 3 rfl
      clear hc R hl H2 htk hlj H1 H0 hst
      unfold valU at P1
      generalize l[j] = u at *
      replace P1 := Lib.hid P1
      go_wp2_with fail
      refine Calls.mono P1.out ?_
      rintro e w2 ⟨rfl, H3⟩

      clear P1
      by_cases hs : (j : Int) + 1 < far
      · rw [decide_eq_true hs]
        replace H3 := Lib.hid H3
        go_wp2_with fail
        go_roundg (l.length - (j + 1))
        case measure => omega
        case rel => exact ⟨j + 1, by omega, rfl, by go_num, .inr (by omega), H3.out⟩
      · rw [decide_eq_false hs]
        rw [← take_stop hfar hs] at H3
        replace H3 := Lib.hid H3
        go_wp2_with fail
        refine bodyPost_ret (results_none rfl _ _ _) rfl ?_
        exact ⟨⟨_, rfl⟩, H3.out⟩
    · obtain rfl : j = l.length := by omega
      have ht : l.take l.length = l.take (max far 1).toNat := by
        rw [List.take_length, List.take_of_length_le]
        omega
      rw [ht] at hst
      clear H1 H0
      replace hst := Lib.hid hst
      go_wp2_with fail
      go_end0
      exact ⟨⟨_, rfl⟩, hst.out⟩
end Go.Proofs.Ytfdijoaclpnccaa.Net
