/- The walk of the statement OctetsBack. -/
import Derived.Test.YticcedempclapaaOctetsBack
namespace Go.Proofs.Yticcedempclapaa.Octets
open Go Go.RowKit Go.Proofs.Yticcedempclapaa
attribute [local irreducible] Calls

theorem of_uint64_at (s : ByteArray) (w : World) (hs : s.size ≤ 900000000) {v : Int} (h : (ofB s.data.toList : Int) = v) :
    Calls Try.prog 43 #[.string s] w (Ret w (.int .u64 v)) := by
  subst h
  exact of_uint64 s w hs
set_option maxRecDepth 100000 in
set_option maxHeartbeats 2000000 in
theorem back_walk (n : Int) (w0 : (Lit.int .i64 n).wf = true) (m : Int) (w1 : (Lit.int .u64 m).wf = true) (size : Int) (w2 : (Lit.int .i64 size).wf = true) (s : ByteArray) (ws : s.size ≤ maxLen) (w : World) :
    Calls Try.prog 9 #[.int .i64 n, .int .u64 m, .int .i64 size, .string s] w (Ret w (.bool true)) := by
  unfold maxLen at ws
  have b0 := bounds_i64 w0
  have b1 := bounds_u64 w1
  have bm := b1
  have b2 := bounds_i64 w2
  go_enter Try.func9, Try.ntmps9
  go_wp2_with fail
  refine Calls.mono (works_law _) ?_
  rintro e w1 ⟨rfl, hb1⟩
  have z1 := Below.size hb1; try simp only [World.size_alloc, World.size_setCell, World.size_drew] at z1
  by_cases h : 3000 < s.size
  · have q1 : decide ((3000 : Int) < (s.size : Int)) = true := decide_eq_true (by omega)
    go_wp2_with fail
    go_ret
    exact Ret.mk rfl (by repeat (first | with_reducible exact Below.refl _ _ | (with_reducible refine Below.al ?_) | (with_reducible refine Below.drew ?_) | (with_reducible refine Below.set ?_ (by first | (simp; done) | omega | (simp; omega))) | (with_reducible refine Below.thru ?_ (by assumption)) | (with_reducible refine Below.chg ?_ (by assumption) (by first | (simp; done) | omega | (simp; omega)))))
  · have q1 : decide ((3000 : Int) < (s.size : Int)) = false := decide_eq_false (by omega)
    obtain ⟨k, hk, hk1, hk7⟩ := size_of size
    replace hk := Lib.hid hk
    go_wp2_with fail
    rw [hk.out]
    refine Calls.mono (put_int_at ⟨#[]⟩ n k _ (by decide) (by omega) b0 (r := ⟨(putB n k).toArray⟩) (by rw [show (min (k : Int) 8).toNat = k by omega]; rfl)) ?_
    rintro e w2 ⟨rfl, hb2⟩
    have z2 := Below.size hb2; try simp only [World.size_alloc, World.size_setCell, World.size_drew] at z2
    have hadd := run_string_add_sum (P := Try.prog) w2 ⟨(putB n k).toArray⟩ s (by rw [putB_size]; omega)
    go_wp2_with fail
    refine Calls.mono (put_u64_at (⟨(putB n k).toArray⟩ ++ s) m 7 _ (by rw [ByteArray.size_append, putB_size]; omega) (by omega) b1 (r := packed n k s m) rfl) ?_
    rintro e w3 ⟨rfl, hb3⟩
    have z3 := Below.size hb3; try simp only [World.size_alloc, World.size_setCell, World.size_drew] at z3
    obtain ⟨hr, hz⟩ := shl_mod n k hk7
    obtain ⟨b1, b2⟩ := pow_bd k hk7
    have hput : (⟨(putB m 8).toArray⟩ : ByteArray).size = 8 := putB_size m 8
    have hof : (ofB (putB m 8) : Int) = m := by rw [ofB_putB 8 m (by omega)]; exact Int.emod_eq_of_lt (by omega) (by omega)
    replace hput := Lib.hid hput
    replace hof := Lib.hid hof
    have hx0 := Int.emod_nonneg n (show (256 : Int) ^ k ≠ 0 by omega)
    have hx1 := Int.emod_lt_of_pos n b2
    have hy0 := Int.emod_nonneg m (show (256 : Int) ^ 7 ≠ 0 by decide)
    have hy1 := Int.emod_lt_of_pos m (show 0 < (256 : Int) ^ 7 by decide)
    have wa := wrap_putB n k hk7
    have wb := wrap_putB m 7 (by omega)
    have hA := packed_head n k s m
    have hM := packed_mid n k s m
    have hE := packed_end n k s m
    have hsz := packed_size n k s m
    generalize packed n k s m = p at *
    obtain ⟨v1, a1, f1⟩ := num_good p 0 k hk1 hk7 (by omega)
    obtain ⟨v2, a2, f2⟩ := bytes_good p k s.size (by omega)
    obtain ⟨v3, a3, f3⟩ := num_good p (k + s.size) 7 (by omega) (by omega) (by omega)
    obtain ⟨v4, a4, f4⟩ := num_short p (k + s.size + 7) 1 (by omega) (by omega) (by omega)
    rw [hA, wa] at v1
    rw [hM] at v2
    rw [hE, wb] at v3
    rw [Nat.zero_add] at a1
    have ok0 : okCut p 0 0 := ⟨by omega, by omega, by omega, by omega⟩
    have ok1 : okCut p k 0 := ⟨by omega, by omega, by omega, by omega⟩
    have ok2 : okCut p (k + s.size) 0 := ⟨by omega, by omega, by omega, by omega⟩
    have ok3 : okCut p (k + s.size + 7) 0 := ⟨by omega, by omega, by omega, by omega⟩
    have ok4 : okCut p (k + s.size + 7) 1 := ⟨by omega, by omega, by omega, by omega⟩
    have hd3 : doneF p (k + s.size + 7) 0 = 0 := by unfold doneF; rw [if_neg (by omega)]
    have hd4 : doneF p (k + s.size + 7) 1 = 1 := by unfold doneF; rw [if_neg (by omega)]
    clear hA hM hE hsz wa wb hadd
    replace v1 := Lib.hid v1; replace a1 := Lib.hid a1; replace f1 := Lib.hid f1; replace v2 := Lib.hid v2; replace a2 := Lib.hid a2; replace f2 := Lib.hid f2; replace v3 := Lib.hid v3; replace a3 := Lib.hid a3; replace f3 := Lib.hid f3; replace v4 := Lib.hid v4; replace a4 := Lib.hid a4; replace f4 := Lib.hid f4; replace ok0 := Lib.hid ok0; replace ok1 := Lib.hid ok1; replace ok2 := Lib.hid ok2; replace ok3 := Lib.hid ok3; replace ok4 := Lib.hid ok4; replace hd3 := Lib.hid hd3; replace hd4 := Lib.hid hd4
    go_wp2_with fail
    refine Calls.mono (new_any _ _) ?_
    rintro e w4 ⟨rfl, hb4, hB4⟩
    have HB4 := Lib.hid hB4
    have z4 := hB4.lt
    clear hB4
    go_wp2_with fail
    refine Calls.mono (num_at w3.heap.size p 0 0 k _ HB4.out ok0.out (by omega) v1.out a1.out f1.out) ?_
    rintro e w5 ⟨rfl, hg5, hB5⟩
    have z5 := World.grownBy.size hg5; try simp only [World.size_alloc, World.size_setCell, World.size_drew] at z5
    have HB5 := Lib.hid hB5
    obtain ⟨z5_c, c5_c, f5_c⟩ := hB5
    go_wp2_with fail
    refine Calls.mono (bytes_at w3.heap.size p k 0 s.size _ HB5.out ok1.out (by omega) v2.out a2.out f2.out) ?_
    rintro e w6 ⟨rfl, hg6, hB6⟩
    have z6 := World.grownBy.size hg6; try simp only [World.size_alloc, World.size_setCell, World.size_drew] at z6
    have HB6 := Lib.hid hB6
    obtain ⟨z6_c, c6_c, f6_c⟩ := hB6
    go_wp2_with fail
    refine Calls.mono (num_at w3.heap.size p (k + s.size) 0 7 _ HB6.out ok2.out (by omega) v3.out a3.out f3.out) ?_
    rintro e w7 ⟨rfl, hg7, hB7⟩
    have z7 := World.grownBy.size hg7; try simp only [World.size_alloc, World.size_setCell, World.size_drew] at z7
    have HB7 := Lib.hid hB7
    obtain ⟨z7_c, c7_c, f7_c⟩ := hB7
    go_wp2_with fail
    refine Calls.mono (done_any w3.heap.size p (k + s.size + 7) 0 _ HB7.out ok3.out) ?_
    rintro e w8 ⟨rfl, hb8⟩
    have z8 := Below.size hb8; try simp only [World.size_alloc, World.size_setCell, World.size_drew] at z8
    obtain ⟨c8_0, f8_0⟩ := Below.blk hb8 (b := w3.heap.size) (by first | (simp; done) | omega | (simp; omega))
    have z8_0 : w3.heap.size < w8.heap.size := (by first | (simp; done) | omega | (simp; omega))
    rw [hd3.out]
    go_wp2_with fail
    refine Calls.mono (num_at w3.heap.size p (k + s.size + 7) 0 1 _ (HB7.out.below hb8) ok3.out (by omega) v4.out a4.out f4.out) ?_
    rintro e w9 ⟨rfl, hg9, hB9⟩
    have z9 := World.grownBy.size hg9; try simp only [World.size_alloc, World.size_setCell, World.size_drew] at z9
    have HB9 := Lib.hid hB9
    obtain ⟨z9_c, c9_c, f9_c⟩ := hB9
    go_wp2_with fail
    refine Calls.mono (done_any w3.heap.size p (k + s.size + 7) 1 _ HB9.out ok4.out) ?_
    rintro e w10 ⟨rfl, hb10⟩
    have z10 := Below.size hb10; try simp only [World.size_alloc, World.size_setCell, World.size_drew] at z10
    obtain ⟨c10_0, f10_0⟩ := Below.blk hb10 (b := w3.heap.size) (by first | (simp; done) | omega | (simp; omega))
    have z10_0 : w3.heap.size < w10.heap.size := (by first | (simp; done) | omega | (simp; omega))
    rw [hd4.out]
    go_wp2_with fail
    refine Calls.mono (put_u64_at ⟨#[]⟩ m 8 _ (by decide) (by omega) bm (r := ⟨(putB m 8).toArray⟩) rfl) ?_
    rintro e w11 ⟨rfl, hb11⟩
    have z11 := Below.size hb11; try simp only [World.size_alloc, World.size_setCell, World.size_drew] at z11
    go_wp2_with fail
    refine Calls.mono (of_uint64_at ⟨(putB m 8).toArray⟩ _ (by rw [hput.out]; omega) (v := m) hof.out) ?_
    rintro e w12 ⟨rfl, hb12⟩
    have z12 := Below.size hb12; try simp only [World.size_alloc, World.size_setCell, World.size_drew] at z12
    go_wp2_with fail
    go_ret
    exact Ret.mk rfl (by repeat (first | with_reducible exact Below.refl _ _ | (with_reducible refine Below.al ?_) | (with_reducible refine Below.drew ?_) | (with_reducible refine Below.set ?_ (by first | (simp; done) | omega | (simp; omega))) | (with_reducible refine Below.thru ?_ (by assumption)) | (with_reducible refine Below.chg ?_ (by assumption) (by first | (simp; done) | omega | (simp; omega)))))
end Go.Proofs.Yticcedempclapaa.Octets
