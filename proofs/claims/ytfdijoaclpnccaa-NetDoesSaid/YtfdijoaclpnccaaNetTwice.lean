/- The walk of the statement NetTwice. -/
import Derived.Test.YtfdijoaclpnccaaNetLaw
namespace Go.Proofs.Ytfdijoaclpnccaa.Net
set_option linter.unusedSimpArgs false
set_option linter.unusedVariables false
open Go Go.RowKit Go.Proofs.Ytfdijoaclpnccaa Go.Proofs.Ytfdijoaclpnccaa.DelUn
attribute [local irreducible] Calls

theorem un_in {w : World} {cs : List Value} (h : Fits w (.cons 1 (.int .i64) (.cons 2 (.cons 1 (.int .i64) (.cons 1 (.int .i64) .nil)) (.cons 1 .str .nil))) cs) : ∃ x : Un, cs = encU x ∧ x.dat.size ≤ maxLen := by
  obtain ⟨v0, vs, rfl, f0, r0⟩ := fits_cons1 h
  obtain ⟨n0, rfl, _⟩ := fits_int f0
  obtain ⟨h2, f1, r1⟩ := r0
  obtain ⟨va, t1, e1, g0, s0⟩ := fits_cons1 f1
  obtain ⟨n1, rfl, _⟩ := fits_int g0
  obtain ⟨vb, t2, rfl, g1, s1⟩ := fits_cons1 s0
  obtain ⟨n2, rfl, _⟩ := fits_int g1
  obtain rfl : t2 = [] := s1
  obtain ⟨vc, t3, e3, g2, s2⟩ := fits_cons1 r1
  obtain ⟨s, rfl, hs⟩ := fits_str g2
  obtain rfl : t3 = [] := s2
  refine ⟨⟨n0, n1, n2, s⟩, ?_, hs⟩
  rw [← List.take_append_drop 2 vs, e1, e3]
  rfl
theorem turn_len (s : ByteArray) (m : Nat) : (turnS s m).size = s.size := by
  show (List.set _ _ _).toArray.size = s.data.size
  rw [List.size_toArray, List.length_set, Array.length_toList]
theorem turn_data (s : ByteArray) (m : Nat) : (turnS s m).data.toList = s.data.toList.set (m / 8) ((s.data.toList[m / 8]?.getD 0) ^^^ UInt8.ofNat (2 ^ (m % 8))) := rfl
theorem turn_turn (s : ByteArray) (m : Nat) (h : m / 8 < s.size) : turnS (turnS s m) m = s := by
  have hl : m / 8 < s.data.toList.length := by simpa using h
  apply ByteArray.ext
  apply Array.toList_inj.1
  rw [turn_data, turn_data]
  rw [List.getElem?_set_self hl, Option.getD_some, List.set_set, List.getElem?_eq_getElem hl, Option.getD_some, UInt8.xor_assoc, UInt8.xor_self, UInt8.xor_zero]
  exact List.set_getElem_self hl
theorem turn_ne (s : ByteArray) (m : Nat) (h : m / 8 < s.size) : turnS s m ≠ s := by
  have hl : m / 8 < s.data.toList.length := by simpa using h
  intro e
  have e1 : (turnS s m).data.toList[m / 8]? = s.data.toList[m / 8]? := by rw [e]
  rw [turn_data, List.getElem?_set_self hl, List.getElem?_eq_getElem hl, Option.getD_some] at e1
  injection e1 with e1
  have h8 : m % 8 < 8 := Nat.mod_lt _ (by omega)
  generalize s.data.toList[m / 8] = c at e1
  generalize m % 8 = k at h8 e1
  have e2 : UInt8.ofNat (2 ^ k) = 0 := by
    have := congrArg (c ^^^ ·) e1
    simpa [← UInt8.xor_assoc] using this
  match k, h8 with
  | 0, _ => exact absurd e2 (by decide)
  | 1, _ => exact absurd e2 (by decide)
  | 2, _ => exact absurd e2 (by decide)
  | 3, _ => exact absurd e2 (by decide)
  | 4, _ => exact absurd e2 (by decide)
  | 5, _ => exact absurd e2 (by decide)
  | 6, _ => exact absurd e2 (by decide)
  | 7, _ => exact absurd e2 (by decide)
/-- One packet, one bit: turned, and turned back. -/
theorem flip_one (d : Nat) (u : Un) (bit : Int) (hb : 0 ≤ bit) (hs : u.dat.size ≤ 1000) : ∃ (b : Bool) (s : ByteArray),
    (∀ w S, (netA d [u]).holds w S → Calls Try.prog 25 #[.pointer (some ⟨d, 0, none⟩), .int .i64 0, .int .i64 bit] w (Fin w S (.bool b) [netA d [{ u with dat := s }]])) ∧
    (∀ w S, (netA d [{ u with dat := s }]).holds w S → Calls Try.prog 25 #[.pointer (some ⟨d, 0, none⟩), .int .i64 0, .int .i64 bit] w (Fin w S (.bool b) [netA d [u]])) ∧
    s.size = u.dat.size ∧ (b = false → s = u.dat ∧ u.dat = ⟨#[]⟩) ∧ (b = true → s ≠ u.dat ∧ 0 < u.dat.size) := by
  by_cases h0 : u.dat.size = 0
  · have he : u.dat = ⟨#[]⟩ := by
      apply ByteArray.ext
      exact Array.eq_empty_of_size_eq_zero h0
    have K : ∀ w S, (netA d [u]).holds w S → Calls Try.prog 25 #[.pointer (some ⟨d, 0, none⟩), .int .i64 0, .int .i64 bit] w (Fin w S (.bool false) [netA d [u]]) := fun w S h =>
      Calls.mono (flip_empty d [u] 0 bit u w S h (by omega) (by simp) rfl hb he) (by rintro e w' ⟨rfl, hb'⟩; exact ⟨rfl, (St.start (Sep.one h)).thru hb'⟩)
    exact ⟨false, u.dat, K, K, rfl, fun _ => ⟨rfl, he⟩, fun h => by cases h⟩
  · have hm : bit.toNat % (8 * u.dat.size) / 8 < u.dat.size := by
      have := Nat.mod_lt bit.toNat (show 0 < 8 * u.dat.size by omega)
      omega
    refine ⟨true, turnS u.dat (bit.toNat % (8 * u.dat.size)), fun w S h => flip_ok d [u] 0 bit u w S h (by omega) (by simp) rfl hb (by omega) hs, fun w S h => ?_, turn_len _ _, fun h => (by cases h), fun _ => ⟨turn_ne _ _ hm, by omega⟩⟩
    have K := flip_ok d [{ u with dat := turnS u.dat (bit.toNat % (8 * u.dat.size)) }] 0 bit _ w S h (by omega) (by simp) rfl hb (by show 0 < (turnS _ _).size; rw [turn_len]; omega) (by show (turnS _ _).size ≤ 1000; rw [turn_len]; exact hs)
    simp only [turn_len, turn_turn _ _ hm] at K
    exact K
set_option maxRecDepth 100000 in
theorem twice_walk (u : Un) (wu : u.dat.size ≤ maxLen) (bit : Int) (wb : (Lit.int .u32 bit).wf = true) (w : World) :
    Calls Try.prog 4 #[.agg #[.int .i64 u.side, .int .i64 u.frm, .int .i64 u.dst, .string u.dat], .int .u32 bit] w (Ret w (.bool true)) := by
  obtain ⟨u0, u1, u2, u3⟩ := u
  simp only at wu
  unfold maxLen at wu
  have H1 := (St.zero w).alloc [.int .i64 u0, .int .i64 u1, .int .i64 u2, .string u3] 31
  replace H1 := Lib.hid H1
  go_enter Try.func4, Try.ntmps4
  go_wp2_with fail
  refine Calls.mono (works_law _) ?_
  rintro e w1 ⟨rfl, hb1⟩
  have H2 := H1.out.thru hb1
  obtain ⟨z1, c1, f1⟩ := H2.box 0 rfl
  replace H2 := Lib.hid H2
  by_cases hs : 1000 < u3.size
  · have q : decide ((1000 : Int) < u3.size) = true := decide_eq_true (by omega)
    go_wp2_with fail
    go_ret
    exact H2.out.ret rfl
  have q : decide ((1000 : Int) < u3.size) = false := decide_eq_false (by omega)
  go_wp2_with fail
  refine Calls.mono (new_any _) ?_
  rintro e w2 ⟨d, rfl, H3⟩
  have H4 : St w none0 w2 [netA d [], cellA w.heap.size [.int .i64 u0, .int .i64 u1, .int .i64 u2, .string u3]] := H2.out.add H3
  obtain ⟨z4, c4, f4⟩ := H4.box 1 rfl
  have P1 := Calls.st_at 0 H4 rfl fun S h => put_any d [] ⟨u0, u1, u2, u3⟩ _ S h
  clear H3 H4
  replace P1 := Lib.hid P1
  go_wp2_with fail
  refine Calls.mono P1.out ?_
  rintro e w3 ⟨rfl, H5⟩
  have H5' : St w none0 w3 [netA d [⟨u0, u1, u2, u3⟩], cellA w.heap.size [.int .i64 u0, .int .i64 u1, .int .i64 u2, .string u3]] := H5
  clear H5 P1
  obtain ⟨hb0, _⟩ : 0 ≤ bit ∧ True := ⟨by have := bounds_u32 wb; omega, trivial⟩
  have hb9 : bit ≤ 4294967295 := by have := bounds_u32 wb; omega
  obtain ⟨b, s', F1, F2, hsz, hbf, hbt⟩ := flip_one d ⟨u0, u1, u2, u3⟩ bit hb0 (by simp only; omega)
  simp only at F1 F2 hsz hbf hbt
  rw [show decide (([] : List Un).length < 200) = true from rfl]
  obtain ⟨z5, c5, f5⟩ := H5'.box 1 rfl
  have P2 := Calls.st_at 0 H5' rfl fun S h => F1 _ S h
  replace P2 := Lib.hid P2; replace F1 := Lib.hid F1; replace F2 := Lib.hid F2; replace hbf := Lib.hid hbf; replace hbt := Lib.hid hbt
  clear H5'
  go_wp2_with fail
  refine Calls.mono P2.out ?_
  rintro e w4 ⟨rfl, H6⟩
  have H6' : St w none0 w4 [netA d [⟨u0, u1, u2, s'⟩], cellA w.heap.size [.int .i64 u0, .int .i64 u1, .int .i64 u2, .string u3]] := H6
  have P3 := Calls.rd_at 0 H6' rfl fun S h => at_ok d [⟨u0, u1, u2, s'⟩] 0 ⟨u0, u1, u2, s'⟩ _ S h (by omega) (by simp) rfl
  simp only [valU] at P3
  clear H6 P2 H6'
  replace P3 := Lib.hid P3
  go_wp2_with fail
  refine Calls.mono P3.out ?_
  rintro e w5 ⟨rfl, H7⟩
  have H8 := H7.alloc [.int .i64 u0, .int .i64 u1, .int .i64 u2, .string s'] 31
  have P4 := Calls.st_at 1 H8 rfl fun S h => F2.out _ S h
  clear H7 P3 H8
  replace P4 := Lib.hid P4
  go_wp2_with fail
  refine Calls.mono P4.out ?_
  rintro e w6 ⟨rfl, H9⟩
  have H9' : St w none0 w6 [netA d [⟨u0, u1, u2, u3⟩], cellA w5.heap.size [.int .i64 u0, .int .i64 u1, .int .i64 u2, .string s'], cellA w.heap.size [.int .i64 u0, .int .i64 u1, .int .i64 u2, .string u3]] := H9
  have P5 := Calls.rd_at 0 H9' rfl fun S h => at_ok d [⟨u0, u1, u2, u3⟩] 0 ⟨u0, u1, u2, u3⟩ _ S h (by omega) (by simp) rfl
  simp only [valU] at P5
  clear H9 H9' P4
  replace P5 := Lib.hid P5
  go_wp2_with fail
  refine Calls.mono P5.out ?_
  rintro e w7 ⟨rfl, H10⟩
  have H11 := H10.alloc [.int .i64 u0, .int .i64 u1, .int .i64 u2, .string u3] 31
  obtain ⟨SR, hR, _, hback⟩ := H11.at 1 rfl
  have P6 := clear_any d [⟨u0, u1, u2, u3⟩] _ SR hR
  clear H10 H11 P5
  replace P6 := Lib.hid P6; replace hback := Lib.hid hback
  go_wp2_with fail
  refine Calls.mono P6.out ?_
  rintro e w8 ⟨v, rfl, h8⟩
  have H12 := hback.out _ _ h8
  clear hback h8 P6
  have H13 : St w none0 w8 [rowA 4 v 1 [.int .i64 u0, .int .i64 u1, .int .i64 u2, .string u3], netA d [], cellA w7.heap.size [.int .i64 u0, .int .i64 u1, .int .i64 u2, .string u3], cellA w5.heap.size [.int .i64 u0, .int .i64 u1, .int .i64 u2, .string s'], cellA w.heap.size [.int .i64 u0, .int .i64 u1, .int .i64 u2, .string u3]] := H12
  obtain ⟨g, o, cp, rfl⟩ := row_some (H13.row 0 rfl) (by omega)
  have P7 := Calls.st_at 1 H13 rfl fun S h => put_any d [] ⟨5, 0, 0, ByteArray.empty⟩ _ S h
  simp only [valU] at P7
  clear H12 H13
  replace P7 := Lib.hid P7
  go_wp2_with fail
  refine Calls.mono P7.out ?_
  rintro e w9 ⟨rfl, H14⟩
  have H15 : St w none0 w9 [netA d [⟨5, 0, 0, ByteArray.empty⟩], rowA 4 (.slice (some ⟨g, o, none⟩) 1 cp) 1 [.int .i64 u0, .int .i64 u1, .int .i64 u2, .string u3], cellA w7.heap.size [.int .i64 u0, .int .i64 u1, .int .i64 u2, .string u3], cellA w5.heap.size [.int .i64 u0, .int .i64 u1, .int .i64 u2, .string s'], cellA w.heap.size [.int .i64 u0, .int .i64 u1, .int .i64 u2, .string u3]] := H14
  obtain ⟨a9, cap9, e9, _, _, R9⟩ := (H15.row 1 rfl).rd (by omega)
  injection e9 with e91
  rw [← e91] at R9
  obtain ⟨b9, o9, f9, gl, hc9⟩ := R9.cons (by simp)
  injection f9 with f91
  injection f91 with f92 f93
  subst f92 f93
  have k0 := hc9 0 _ rfl
  have k1 := hc9 1 _ rfl
  have k2 := hc9 2 _ rfl
  have k3 := hc9 3 _ rfl
  rw [Nat.add_zero] at k0
  obtain ⟨zx, cx, fx⟩ := H15.box 2 rfl
  obtain ⟨zy, cy, fy⟩ := H15.box 3 rfl
  obtain ⟨zu, cu, fu⟩ := H15.box 4 rfl
  clear H14 hc9 R9 e91 P7
  replace H15 := Lib.hid H15
  go_wp2_with fail
  refine wp_region_near (by kernel_rfl) (by kernel_rfl) ?_
  intro hs
  repeat (go_big_quiet_step (fail))
  refine wpQuiet_nil ?_
  clear hs
  intro w10 hb10
  have H16 := H15.out.thru hb10
  obtain ⟨yx, dx, gx⟩ := H16.box 2 rfl
  obtain ⟨yy, dy, gy⟩ := H16.box 3 rfl
  obtain ⟨yu, du, gu⟩ := H16.box 4 rfl
  replace H16 := Lib.hid H16
  cases b
  · obtain ⟨rfl, rfl⟩ := hbf.out rfl
    go_wp2_with fail
    go_ret
    exact H16.out.ret rfl
  · obtain ⟨hne, hpos⟩ := hbt.out rfl
    have q4 : u3.toList.isEmpty = false := str_ne hpos
    have q6 : ¬ s'.toList = u3.toList := fun e => hne (by
      rw [ByteArray.toList_eq, ByteArray.toList_eq] at e
      exact ByteArray.ext (Array.toList_inj.1 e))
    replace hne := Lib.hid hne
    go_wp2_with fail
    go_ret
    exact H16.out.ret rfl
theorem twice_law (a0 : Array Value) (a1 : Int) (w1 : (Lit.int .u32 a1).wf = true) (w : World) (h0 : Fits w (.cons 1 (.int .i64) (.cons 2 (.cons 1 (.int .i64) (.cons 1 (.int .i64) .nil)) (.cons 1 .str .nil))) a0.toList) :
    Calls Try.prog 4 #[.agg a0, .int .u32 a1] w (Ret w (.bool true)) := by
  obtain ⟨u, hu, hs⟩ := un_in h0
  obtain rfl : a0 = #[.int .i64 u.side, .int .i64 u.frm, .int .i64 u.dst, .string u.dat] := Array.toList_inj.1 hu
  exact twice_walk u hs a1 w1 w
end Go.Proofs.Ytfdijoaclpnccaa.Net
