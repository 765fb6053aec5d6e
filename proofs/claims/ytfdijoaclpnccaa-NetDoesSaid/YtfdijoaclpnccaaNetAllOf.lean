/- The walks of the net's statements' own lists: all, Great. -/
import Derived.Test.YtfdijoaclpnccaaNetLists
namespace Go.Proofs.Ytfdijoaclpnccaa.Net
set_option linter.unusedSimpArgs false
set_option linter.unusedVariables false
open Go Go.RowKit Go.Proofs.Ytfdijoaclpnccaa Go.Proofs.Ytfdijoaclpnccaa.DelUn
attribute [local irreducible] Calls

set_option maxRecDepth 100000 in
set_option maxHeartbeats 400000 in
theorem all_any (d : Nat) (l : List Un) (hl2 : l.length ≤ 200) (w : World) (S : Nat → Prop) (h : (netA d l).holds w S) :
    Calls Try.prog 28 #[.pointer (some ⟨d, 0, none⟩)] w (fun e w' => ∃ v, e = .returned v ∧ St w S w' [rowA 4 v l.length (uns l), netA d l]) := by
  obtain ⟨i0, hi, hz, hz1, hz2⟩ := info_parts el_info
  have H0 := (St.start (Sep.one h)).row_nil (size := 4)
  clear h
  replace H0 := Lib.hid H0
  go_enter Try.func28, Try.ntmps28
  go_wp2_with fail
  go_loopg [3, 4, 5, 6] l.length (fun g sv i _ _ wr => ∃ j : Nat, j ≤ l.length ∧ g = l.length - j ∧ i = .int .i64 j ∧ St w S wr [rowA 4 sv j (uns (l.take j)), netA d l])
  case atStart => exact ⟨0, by omega, by omega, rfl, H0.out⟩
  case round =>
    obtain ⟨sv, hsv⟩ : ∃ v, v = u3 := ⟨_, rfl⟩
    subst hsv
    obtain ⟨j, hj, hg, rfl, hst⟩ := hrel
    have P1 := Calls.rd_at 1 hst rfl fun S h => len_any d l _ S h
    clear hst
    replace P1 := Lib.hid P1
    go_wp2_with fail
    refine Calls.mono P1.out ?_
    rintro e w1 ⟨rfl, H1⟩
    by_cases hlt : j < l.length
    · have P2 := Calls.rd_at 1 H1 rfl fun S h => at_ok d l j l[j] _ S h (by omega) (by omega) (by rw [Int.toNat_natCast, Nat.mod_eq_of_lt hlt]; exact List.getElem?_eq_getElem hlt)
      have htk : l.take (j + 1) = l.take j ++ [l[j]] := List.take_succ_eq_append_getElem hlt
      generalize l[j] = x at *
      obtain ⟨x0, x1, x2, x3⟩ := x
      simp only [valU] at P2
      clear H1 P1
      replace P2 := Lib.hid P2; replace htk := Lib.hid htk
      go_wp2_with fail
      refine Calls.mono P2.out ?_
      rintro e w2 ⟨rfl, H2⟩
      have H3 := H2.alloc [.int .i64 x0, .int .i64 x1, .int .i64 x2, .string x3] 31
      clear H2 P2
      replace H3 := Lib.hid H3
      go_wp2_with (at_builtin; (refine wpList_appS rfl (.tmp 19) (.tmp 21) _ rfl 31 i0 _ 4 40 Try.underlying27 hi hz hz1 hz2 rfl (by omega) 1 sv j (uns (l.take j)) rfl H3.out rfl 1 1 [.int .i64 x0, .int .i64 x1, .int .i64 x2, .string x3] rfl rfl (by simp [Value.oneCell']) (by omega) (by omega) ?_; intro wv5 w5 H5; replace H5 := Lib.hid H5))
      go_roundg (l.length - (j + 1))
      case measure => omega
      case rel => exact ⟨j + 1, by omega, rfl, by go_num, by rw [htk.out, ← uns_app]; exact H5.out.drop 1 rfl⟩
    · obtain rfl : j = l.length := by omega
      rw [List.take_length] at H1
      clear P1
      replace H1 := Lib.hid H1
      go_wp2_with fail
      go_ret
      exact ⟨_, rfl, H1.out⟩
end Go.Proofs.Ytfdijoaclpnccaa.Net
