/- The walks of the answer's Read and Get. -/
import Derived.Test.YtljgmephajocaaaOptsGet
namespace Go.Proofs.Ytljgmephajocaaa.Opts
set_option linter.unusedSimpArgs false
set_option linter.unusedVariables false
open Go Go.RowKit Go.Shelf Go.Proofs.Ytljgmephajocaaa
attribute [local irreducible] Calls

theorem byte_at {s : ByteArray} {i : Nat} (h : i < s.size) : s.data.toList.drop i = s[i] :: s.data.toList.drop (i + 1) := by
  have h1 : i < s.data.toList.length := by simpa using h
  rw [List.drop_eq_getElem_cons h1]
  rfl
set_option maxRecDepth 100000 in
set_option maxHeartbeats 1000000 in
theorem read_any (s : ByteArray) (hs : s.size ≤ 3000) (w : World) :
    Calls Try.prog 42 #[.string s] w (fun e w' => ∃ v, e = .returned (.tuple #[v, .int .i64 (readL s.data.toList).2]) ∧ St w none0 w' [rowA 2 v (readL s.data.toList).1.length (encs (readL s.data.toList).1)]) := by
  obtain ⟨i0, hi, hz, hz1, hz2⟩ := info_parts el_info
  have hsl : s.data.toList.length = s.size := by simp
  obtain ⟨R, hR⟩ : ∃ R, readL s.data.toList = R := ⟨_, rfl⟩
  rw [hR]
  unfold readL at hR
  rw [hsl] at hR
  clear hsl
  have H0 : St w none0 w [rowA 2 (.slice none 0 0) 0 []] := (St.zero w).row_nil (size := 2)
  replace hR := Lib.hid hR; replace H0 := Lib.hid H0
  go_enter Try.func42, Try.ntmps42
  go_wp2_with fail
  go_loopg [4, 5, 6, 7] s.size (fun g lv iv _ _ wr => ∃ (i : Nat) (told : List El), iv = .int .i64 i ∧ i ≤ s.size ∧ s.size ≤ i + g ∧ told.length + g ≤ 3000 ∧ Hid (walkF (fun _ => true) g told (s.data.toList.drop i) = R) ∧ St w none0 wr [rowA 2 lv told.length (encs told)])
  case atStart => exact ⟨0, [], rfl, by omega, by omega, by simpa using hs, hR, H0.out⟩
  case round =>
    obtain ⟨lv, hlv⟩ : ∃ v, v = u4 := ⟨_, rfl⟩
    subst hlv
    obtain ⟨i, told, rfl, hi1, hi2, htl, hw, hst⟩ := hrel
    obtain ⟨la, lc, rfl, _⟩ := St.slice (by omega) 0 hst rfl
    clear H0
    by_cases hlt : i < s.size
    · obtain ⟨g', rfl⟩ : ∃ g', gk = g' + 1 := ⟨gk - 1, by omega⟩
      have hw2 := hw.out
      rw [byte_at hlt] at hw2
      simp only [walkF] at hw2
      have hkn : (s[i]).toNat < 256 := UInt8.toNat_lt _
      clear hw
      unfold rd1 at hw2
      simp only at hw2
      by_cases h31 : (s[i]).toNat ≤ 31
      · have q : decide (((s[i]).toNat : Int) < 32) = true := decide_eq_true (by omega)
        have q' : decide ((s[i]).toNat < 32) = true := decide_eq_true (by omega)
        simp only [if_pos h31, ne_eq, not_true_eq_false, if_false] at hw2
        by_cases hk0 : (s[i]).toNat = 0
        · have q2 : decide ((0 : Int) < ((s[i]).toNat : Int)) = false := decide_eq_false (by omega)
          have q2' : decide (0 < (s[i]).toNat) = false := decide_eq_false (by omega)
          rw [if_pos (by omega)] at hw2
          clear h31 hk0
          replace hst := Lib.hid hst; replace hw2 := Lib.hid hw2
          go_wp2_with fail
          go_roundg g'
          case measure => omega
          case rel => exact ⟨i + 1, told, by go_num, by omega, by omega, by omega, hw2, hst.out⟩
        · have q2 : decide ((0 : Int) < ((s[i]).toNat : Int)) = true := decide_eq_true (by omega)
          have q2' : decide (0 < (s[i]).toNat) = true := decide_eq_true (by omega)
          rw [if_neg (by omega)] at hw2
          simp only [if_true] at hw2
          clear h31 hk0
          replace hst := Lib.hid hst; replace hw2 := Lib.hid hw2
          go_wp2_with (at_builtin; (refine wpList_appS rfl (.tmp 20) (.tmp 23) _ rfl 73 i0 _ 2 24 Try.underlying62 hi hz hz1 hz2 rfl (by omega) 0 _ told.length _ rfl hst.out rfl 1 1 [.int .i64 ((s[i]).toNat : Int), .string ⟨#[]⟩] rfl rfl (by simp [Value.oneCell']) (by omega) (by omega) ?_; intro wv5 w5 H6; have H7 := rows_up (x := (((s[i]).toNat : Int), ⟨#[]⟩)) H6; clear H6; replace H7 := Lib.hid H7))
          go_roundg g'
          case measure => omega
          case rel => exact ⟨i + 1, told ++ [(((s[i]).toNat : Int), ⟨#[]⟩)], by go_num, by omega, by omega, by simp; omega, hw2, by simpa using H7.out⟩
      · have q : decide (((s[i]).toNat : Int) < 32) = false := decide_eq_false (by omega)
        have q' : decide ((s[i]).toNat < 32) = false := decide_eq_false (by omega)
        simp only [if_neg h31] at hw2
        by_cases hi1' : i + 1 < s.size
        · have q3 : decide ((s.size : Int) ≤ (i : Int) + 1) = false := decide_eq_false (by omega)
          rw [byte_at hi1'] at hw2
          simp only at hw2
          have hkn2 : (s[i + 1]).toNat < 256 := UInt8.toNat_lt _
          by_cases hn2 : (s[i + 1]).toNat < 2
          · have q4 : decide (((s[i + 1]).toNat : Int) < 2) = true := decide_eq_true (by omega)
            have q4' : decide ((s[i + 1]).toNat < 2) = true := decide_eq_true (by omega)
            simp only [if_pos hn2, ne_eq, show ¬ (4 : Int) = 0 by omega, not_false_eq_true, if_true] at hw2
            subst hw2
            clear hn2
            replace hst := Lib.hid hst; replace h31 := Lib.hid h31
            go_wp2_with fail
            go_ret2
            exact ⟨_, rfl, hst.out⟩
          · have q4 : decide (((s[i + 1]).toNat : Int) < 2) = false := decide_eq_false (by omega)
            have q4' : decide ((s[i + 1]).toNat < 2) = false := decide_eq_false (by omega)
            simp only [if_neg hn2] at hw2
            have hdl : (s.data.toList.drop (i + 1 + 1)).length = s.size - (i + 2) := by simp
            rw [hdl] at hw2
            by_cases hnl : s.size - (i + 2) + 2 < (s[i + 1]).toNat
            · have q5 : decide ((s.size : Int) < (i : Int) + ((s[i + 1]).toNat : Int)) = true := decide_eq_true (by omega)
              simp only [if_pos hnl, ne_eq, show ¬ (1 : Int) = 0 by omega, not_false_eq_true, if_true] at hw2
              subst hw2
              replace hst := Lib.hid hst; replace h31 := Lib.hid h31; replace hnl := Lib.hid hnl
              go_wp2_with fail
              go_ret2
              exact ⟨_, rfl, hst.out⟩
            · have q5 : decide ((s.size : Int) < (i : Int) + ((s[i + 1]).toNat : Int)) = false := decide_eq_false (by omega)
              simp only [if_neg hnl, ne_eq, not_true_eq_false, if_false] at hw2
              rw [if_neg (by omega)] at hw2
              simp only [if_true] at hw2
              have hv : s.extract (i + 2) (i + (s[i + 1]).toNat) = ⟨((s.data.toList.drop (i + 1 + 1)).take ((s[i + 1]).toNat - 2)).toArray⟩ := by
                apply arr_ext
                rw [ByteArray.data_extract, Array.toList_extract, List.extract_eq_take_drop]
                simp only
                congr 1
                omega
              rw [← hv, List.drop_drop, show i + 1 + 1 + ((s[i + 1]).toNat - 2) = i + (s[i + 1]).toNat by omega] at hw2
              have hle : i + (s[i + 1]).toNat ≤ s.size := by omega
              have hge : 2 ≤ (s[i + 1]).toNat := by omega
              clear hv hdl hnl
              replace hst := Lib.hid hst; replace hw2 := Lib.hid hw2; replace h31 := Lib.hid h31
              go_wp2_with (at_builtin; (refine wpList_appS rfl (.tmp 50) (.tmp 60) _ rfl 73 i0 _ 2 24 Try.underlying62 hi hz hz1 hz2 rfl (by omega) 0 _ told.length _ rfl hst.out rfl 1 1 [.int .i64 ((s[i]).toNat : Int), .string (s.extract (i + 2) (i + (s[i + 1]).toNat))] rfl rfl (by simp [Value.oneCell']) (by omega) (by omega) ?_; intro wv5 w5 H6; have H7 := rows_up (x := (((s[i]).toNat : Int), (s.extract (i + 2) (i + (s[i + 1]).toNat)))) H6; clear H6; replace H7 := Lib.hid H7))
              go_roundg g'
              case measure => omega
              case rel => exact ⟨i + (s[i + 1]).toNat, told ++ [(((s[i]).toNat : Int), s.extract (i + 2) (i + (s[i + 1]).toNat))], by go_num, by omega, by omega, by simp; omega, hw2, by simpa using H7.out⟩
        · have q3 : decide ((s.size : Int) ≤ (i : Int) + 1) = true := decide_eq_true (by omega)
          rw [List.drop_of_length_le (by simp; omega)] at hw2
          simp only [ne_eq, show ¬ (1 : Int) = 0 by omega, not_false_eq_true, if_true] at hw2
          subst hw2
          replace hst := Lib.hid hst; replace h31 := Lib.hid h31
          go_wp2_with fail
          go_ret2
          exact ⟨_, rfl, hst.out⟩
    · have hw2 := hw.out
      rw [List.drop_of_length_le (by simp; omega), walkF_nil] at hw2
      subst hw2
      clear hw
      replace hst := Lib.hid hst
      go_wp2_with fail
      go_ret2
      exact ⟨_, rfl, hst.out⟩
set_option maxRecDepth 100000 in
theorem rget_any (s : ByteArray) (hs : s.size ≤ 3000) (w : World) : Calls Try.prog 41 #[.string s] w (GetS s.data.toList w) := by
  have hsl : s.data.toList.length = s.size := by simp
  have hfew := readL_few (l := s.data.toList) (by omega)
  unfold GetS getE
  have P1 := read_any s hs w
  generalize readL s.data.toList = R at *
  obtain ⟨L, er⟩ := R
  simp only at P1 hfew ⊢
  clear hsl
  replace hfew := Lib.hid hfew
  by_cases he : er = 0
  · subst he
    obtain ⟨ck, hck⟩ : ∃ ck, checkL L = ck := ⟨_, rfl⟩
    have C := fun W a cap h => rcheck_any L L.length rfl hfew.out a cap W h
    simp only [if_true]
    rw [hck] at C ⊢
    clear hck
    replace C := Lib.hid C
    by_cases hc : ck = 0
    · subst hc
      simp only [if_true]
      go_enter Try.func41, Try.ntmps41
      go_wp2_with fail
      refine Calls.mono P1 ?_
      rintro e w1 ⟨v, rfl, H1⟩
      obtain ⟨a1, c1, rfl, _⟩ := St.slice (by omega) 0 H1 rfl
      have P2 := C.out w1 a1 c1 (St.rd (by omega) 0 H1 rfl)
      clear P1
      replace H1 := Lib.hid H1
      go_wp2_with fail
      refine Calls.mono P2 ?_
      rintro e w2 ⟨rfl, hb2⟩
      have H3 := H1.out.thru hb2
      clear P2 H1
      replace H3 := Lib.hid H3
      go_wp2_with fail
      go_ret2
      exact ⟨_, rfl, H3.out⟩
    · have q : (ck != 0) = true := by simp [hc]
      simp only [if_neg hc]
      replace hc := Lib.hid hc
      go_enter Try.func41, Try.ntmps41
      go_wp2_with fail
      refine Calls.mono P1 ?_
      rintro e w1 ⟨v, rfl, H1⟩
      obtain ⟨a1, c1, rfl, _⟩ := St.slice (by omega) 0 H1 rfl
      have P2 := C.out w1 a1 c1 (St.rd (by omega) 0 H1 rfl)
      clear P1
      replace H1 := Lib.hid H1
      go_wp2_with fail
      refine Calls.mono P2 ?_
      rintro e w2 ⟨rfl, hb2⟩
      have H3 := H1.out.thru hb2
      clear P2 H1
      replace H3 := Lib.hid H3
      go_wp2_with fail
      go_ret2
      exact ⟨_, rfl, rfl, H3.out.below⟩
  · have q : (er == 0) = false := by simp [he]
    have q2 : (er != 0) = true := by simp [he]
    simp only [if_neg he]
    replace he := Lib.hid he
    go_enter Try.func41, Try.ntmps41
    go_wp2_with fail
    refine Calls.mono P1 ?_
    rintro e w1 ⟨v, rfl, H1⟩
    obtain ⟨a1, c1, rfl, _⟩ := St.slice (by omega) 0 H1 rfl
    clear P1
    replace H1 := Lib.hid H1
    go_wp2_with fail
    go_ret2
    exact ⟨_, rfl, rfl, H1.out.below⟩
end Go.Proofs.Ytljgmephajocaaa.Opts
