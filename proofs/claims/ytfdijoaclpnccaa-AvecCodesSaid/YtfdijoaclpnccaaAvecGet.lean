/- The walks of avec.Get and of the answer's Get. -/
import Derived.Test.YtfdijoaclpnccaaAvecCode
import Derived.WalkSpells
import Derived.Laws.BitsLemmas
namespace Go.Proofs.Ytfdijoaclpnccaa.Avec
set_option linter.unusedSimpArgs false
set_option linter.unusedVariables false
open Go Go.RowKit Go.Proofs.Ytfdijoaclpnccaa Go.Proofs.Ytfdijoaclpnccaa.Circ
attribute [local irreducible] Calls

def runB (c : UInt8) : Run := ⟨(c.toNat : Int) / 64, (c.toNat : Int) % 64 + 1⟩
def getL (l : List UInt8) : List Run := l.map runB
theorem getL_take {l : List UInt8} {j : Nat} (h : j < l.length) : getL (l.take (j + 1)) = getL (l.take j) ++ [runB l[j]] := by
  unfold getL
  rw [List.take_succ_eq_append_getElem h, List.map_append]
  rfl
set_option maxRecDepth 100000 in
set_option maxHeartbeats 1000000 in
theorem get_any (s : ByteArray) (hs : s.size ≤ 1000000) (w : World) :
    Calls Try.prog 62 #[.string s] w (fun e w' => ∃ v, e = .returned (.tuple #[v, .int .i64 (checkL (getL s.data.toList))]) ∧ (if checkL (getL s.data.toList) = 0 then St w none0 w' [rowA 2 v s.size (runs (getL s.data.toList))] else v = .slice none 0 0 ∧ Below w.heap.size w w')) := by
  obtain ⟨i0, hi, hz, hz1, hz2⟩ := info_parts run_info
  have hsl : s.data.toList.length = s.size := by simp
  have hsm : s.size ≤ maxLen := by unfold maxLen; omega
  obtain ⟨L, hL⟩ : ∃ L, L = s.data.toList := ⟨_, rfl⟩
  rw [← hL] at hsl
  rw [← hL]
  obtain ⟨ck, hck⟩ : ∃ ck, ck = checkL (getL L) := ⟨_, rfl⟩
  rw [← hck]
  replace hL := Lib.hid hL; replace hck := Lib.hid hck
  go_enter Try.func62, Try.ntmps62
  go_wp2_with (refine wpList_bytes rfl (.tmp 8) _ _ _ rfl Try.underlying9 Try.underlying61 Try.underlying5 s rfl hsm ?_; intro v w1 hown hb1 hblk; rw [← hL.out] at hown; have H1 := ((St.zero w).row_new hb1 hown).row_nil (size := 2); obtain ⟨ba, bc, rfl, _⟩ := St.slice (by omega) 1 H1 rfl; clear hown hblk; replace H1 := Lib.hid H1)
  go_loopg [4, 6, 11] s.size (fun g lv _ i wr => ∃ (j : Nat), j ≤ s.size ∧ g = s.size - j ∧ i = .int .i64 j ∧ St w none0 wr [rowA 2 lv (getL (L.take j)).length (runs (getL (L.take j))), rowA 1 (.slice ba s.size bc) s.size (L.map byteVal)])
  case atStart => exact ⟨0, by omega, by omega, rfl, H1.out⟩
  case round =>
    obtain ⟨lv, hlv⟩ : ∃ v, v = u4 := ⟨_, rfl⟩
    subst hlv
    obtain ⟨j, hj, hg, rfl, hst⟩ := hrel
    clear H1
    have hgl : (getL (L.take j)).length = j := by simp [getL]; omega
    by_cases hlt : j < s.size
    · have hjl : j < L.length := by omega
      obtain ⟨b, off, rfl, hb, hc⟩ := (St.rd (by omega) 1 hst rfl).cons (by intro e; have := congrArg List.length e; simp only [List.length_map, List.length_nil] at this; omega)
      have e0 := hc j (byteVal L[j]) (by rw [List.getElem?_map, List.getElem?_eq_getElem hjl]; rfl)
      have hnx := getL_take hjl
      unfold byteVal at e0
      clear hc
      have hc256 := L[j].toNat_lt
      generalize L[j] = c at *
      rw [hgl] at hst
      replace hst := Lib.hid hst; replace hnx := Lib.hid hnx
      go_wp2_with (at_builtin; (refine wpList_appS rfl (.tmp 15) (.tmp 24) _ rfl 115 i0 _ 2 16 Try.underlying67 hi hz hz1 hz2 rfl (by omega) 0 _ _ _ rfl hst.out rfl 1 1 [.int .i64 ((c.toNat : Int) / 64), .int .i64 ((c.toNat : Int) % 64 + 1)] rfl rfl (by simp [Value.oneCell']) (by omega) (by omega) ?_; intro wv5 w5 H5; replace H5 := Lib.hid H5))
      go_roundg (s.size - (j + 1))
      case measure => omega
      case rel => exact ⟨j + 1, by omega, rfl, by go_num, by rw [hnx.out, List.length_append, hgl, ← runs_app]; exact H5.out⟩
    · obtain rfl : j = s.size := by omega
      rw [show L.take s.size = L from List.take_of_length_le (by omega)] at hst hgl
      have hr := St.drop 1 hst rfl
      simp only [List.eraseIdx_cons_succ, List.eraseIdx_cons_zero] at hr
      obtain ⟨la, lc, rfl, _⟩ := St.slice (by omega) 0 hst rfl
      have C := check_any (getL L) _ rfl (by omega) la lc wr (St.rd (by omega) 0 hst rfl)
      rw [← hck.out] at C
      rw [hgl] at hr C ⊢
      clear hst hgl
      by_cases h0 : ck = 0
      · subst h0
        replace C := Lib.hid C; replace hr := Lib.hid hr
        go_wp2_with fail
        refine Calls.mono C.out ?_
        rintro e w7 ⟨rfl, hb7⟩
        have H7 := Lib.hid (hr.out.thru hb7)
        clear C hr
        go_wp2_with fail
        go_ret2
        exact ⟨_, rfl, H7.out⟩
      · have q : (ck == 0) = false := by simpa using h0
        have q' : (ck != 0) = true := by simpa using h0
        replace h0 := Lib.hid h0
        replace C := Lib.hid C; replace hr := Lib.hid hr
        go_wp2_with fail
        refine Calls.mono C.out ?_
        rintro e w7 ⟨rfl, hb7⟩
        have H7 := Lib.hid (hr.out.thru hb7)
        clear C hr
        go_wp2_with fail
        go_ret2
        exact ⟨_, rfl, rfl, H7.out.below⟩

theorem wrapI {x : Int} (h : -9223372036854775808 ≤ x ∧ x ≤ 9223372036854775807) : wrap64 x = x := IntWalk.wrap64_in _ (by omega)
set_option maxRecDepth 100000 in
set_option maxHeartbeats 1000000 in
theorem get_ref (s : ByteArray) (hs : s.size ≤ 1000000) (w : World) :
    Calls Try.prog 63 #[.string s] w (fun e w' => ∃ v, e = .returned (.tuple #[v, .int .i64 (checkL (getL s.data.toList))]) ∧ (if checkL (getL s.data.toList) = 0 then St w none0 w' [rowA 2 v s.size (runs (getL s.data.toList))] else v = .slice none 0 0 ∧ Below w.heap.size w w')) := by
  obtain ⟨i0, hi, hz, hz1, hz2⟩ := info_parts run_info
  have hsl : s.data.toList.length = s.size := by simp
  obtain ⟨L, hL⟩ : ∃ L, L = s.data.toList := ⟨_, rfl⟩
  rw [← hL] at hsl
  rw [← hL]
  obtain ⟨ck, hck⟩ : ∃ ck, ck = checkL (getL L) := ⟨_, rfl⟩
  rw [← hck]
  replace hL := Lib.hid hL; replace hck := Lib.hid hck
  go_enter Try.func63, Try.ntmps63
  go_wp2_with fail
  go_loopg [4, 5] s.size (fun g lv i wr => ∃ (j : Nat), j ≤ s.size ∧ g = s.size - j ∧ i = .int .i64 j ∧ St w none0 wr [rowA 2 lv (getL (L.take j)).length (runs (getL (L.take j)))])
  case atStart => exact ⟨0, by omega, by omega, rfl, (St.zero w).row_nil⟩
  case round =>
    obtain ⟨lv, hlv⟩ : ∃ v, v = u4 := ⟨_, rfl⟩
    subst hlv
    obtain ⟨j, hj, hg, rfl, hst⟩ := hrel
    have hgl : (getL (L.take j)).length = j := by simp [getL]; omega
    by_cases hlt : j < s.size
    · have hjl : j < L.length := by omega
      have hnx := getL_take hjl
      have hsj : s[j] = L[j] := by subst hL; rfl
      obtain ⟨la, lc, rfl, _⟩ := St.slice (by omega) 0 hst rfl
      rw [hgl] at hst ⊢
      have hc256 := L[j].toNat_lt
      obtain ⟨c, hcc⟩ : ∃ c : Nat, c = L[j].toNat := ⟨_, rfl⟩
      obtain ⟨p, hp⟩ : ∃ p : Nat, p = c / 64 := ⟨_, rfl⟩
      obtain ⟨r, hr⟩ : ∃ r : Nat, r = c % 64 := ⟨_, rfl⟩
      have hpI : (c : Int) / 64 = (p : Int) := by rw [hp]; rfl
      have hrI : (c : Int) % 64 = (r : Int) := by rw [hr]; rfl
      have hrun : runB L[j] = ⟨(p : Int), (r : Int) + 1⟩ := by
        rw [← hpI, ← hrI, hcc]
        rfl
      rw [hrun] at hnx
      have hp4 : p < 4 := by have := L[j].toNat_lt; omega
      have hr64 : r < 64 := by omega
      have hcs : ((s[j]'hlt).toNat : Int) = (c : Int) := by rw [hsj, hcc]
      have v1 : -9223372036854775808 ≤ (c : Int) ∧ (c : Int) ≤ 9223372036854775807 := by omega
      have v2 : -9223372036854775808 ≤ (p : Int) ∧ (p : Int) ≤ 9223372036854775807 := by omega
      have v3 : -9223372036854775808 ≤ (r : Int) + 1 ∧ (r : Int) + 1 ≤ 9223372036854775807 := by omega
      clear hrun hc256
      replace hst := Lib.hid hst; replace hnx := Lib.hid hnx; replace hcc := Lib.hid hcc; replace hsj := Lib.hid hsj; replace hp := Lib.hid hp; replace hr := Lib.hid hr
      go_wp2_with fail
      replace v1 := Lib.hid v1; replace v2 := Lib.hid v2; replace v3 := Lib.hid v3
      have hbw := hst.out.below
      replace hbw := Lib.hid hbw
      refine wp_region_made (w.heap.size) (w) [0, 1, 2, 3, 4, 5, 6, 7, 8, 9, 10, 11, 12] [true, true, true, true, true, true, true, true, true, true, true, true, true, false, false, false] 3 #[true, true, true, true, true, true, true, true, true, true, true, true, true, false, false, false] (by kernel_rfl) (hbw.out) rfl (by kernel_rfl) (by kernel_rfl) rfl (by kernel_rfl) (by kernel_rfl) (by intro c a a' w e h; obtain ⟨t, d⟩ := a; obtain ⟨t', d'⟩ := a'; obtain rfl : d = d' := e; exact h) ?_
      intro hs
      simp only [pickB]
      repeat (go_big_quiet_step (fail))
      refine wpQuiet_nil ?_
      clear hs
      try simp only [hcs]
      try simp only [wrapI v1.out]
      try simp only [hpI, hrI]
      try simp only [wrapI v2.out, wrapI v3.out]
      refine held_one (i := 13) (by kernel_rfl) fun K hK => ?_
      simp only [List.drop_succ_cons, List.drop_zero, List.take_succ_cons, List.take_zero]
      go_wp2_with fail
      have E1 := ((St.alloc hst.out [.int .i64 (p : Int), .int .i64 ((r : Int) + 1)] 115).drew)
      refine hK _ _ E1.below ?_
      clear hK K
      refine held_one (i := 14) (by kernel_rfl) fun K hK => ?_
      simp only [List.drop_succ_cons, List.drop_zero, List.take_succ_cons, List.take_zero]
      go_wp2_with (at_builtin; (refine wpList_appRd rfl (.tmp 13) (.tmp 26) _ rfl 115 i0 _ 2 16 Try.underlying67 hi hz hz1 hz2 rfl (by omega) 1 (.slice la j lc) j (runs (getL (L.take j))) rfl E1 rfl _ 1 1 [.int .i64 (p : Int), .int .i64 ((r : Int) + 1)] rfl rfl (St.box 0 E1 rfl).rd (by simp) (by simp [Value.oneCell']) (by omega) (by omega) ?_; intro wv6 w6 HC))
      refine hK _ _ HC.below ?_
      clear hK K
      refine held_one (i := 15) (by kernel_rfl) fun K hK => ?_
      simp only [List.drop_succ_cons, List.drop_zero, List.take_succ_cons, List.take_zero]
      go_wp2_with fail
      refine hK _ _ HC.below ?_
      clear hK K
      refine held_done (by kernel_rfl) ?_
      have HD := HC.drops 1
      simp only [List.take_succ_cons, List.take_zero] at HD
      clear HC E1 hst
      replace HD := Lib.hid HD
      go_wp2_with fail
      go_roundg (s.size - (j + 1))
      case measure => omega
      case rel => exact ⟨j + 1, by omega, rfl, by go_num, by rw [hnx.out, List.length_append, hgl, ← runs_app]; exact HD.out⟩
    · obtain rfl : j = s.size := by omega
      rw [show L.take s.size = L from List.take_of_length_le (by omega)] at hst hgl
      obtain ⟨la, lc, rfl, _⟩ := St.slice (by omega) 0 hst rfl
      have C := rcheck_any (getL L) _ rfl (by omega) la lc wr (St.rd (by omega) 0 hst rfl)
      rw [← hck.out] at C
      rw [hgl] at hst C ⊢
      clear hgl
      by_cases h0 : ck = 0
      · subst h0
        replace C := Lib.hid C; replace hst := Lib.hid hst
        go_wp2_with fail
        refine Calls.mono C.out ?_
        rintro e w7 ⟨rfl, hb7⟩
        have H7 := Lib.hid (hst.out.thru hb7)
        clear C hst
        go_wp2_with fail
        go_ret2
        exact ⟨_, rfl, H7.out⟩
      · have q : (ck == 0) = false := by simpa using h0
        have q' : (ck != 0) = true := by simpa using h0
        replace h0 := Lib.hid h0
        replace C := Lib.hid C; replace hst := Lib.hid hst
        go_wp2_with fail
        refine Calls.mono C.out ?_
        rintro e w7 ⟨rfl, hb7⟩
        have H7 := Lib.hid (hst.out.thru hb7)
        clear C hst
        go_wp2_with fail
        go_ret2
        exact ⟨_, rfl, rfl, H7.out.below⟩
end Go.Proofs.Ytfdijoaclpnccaa.Avec
