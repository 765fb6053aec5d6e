/- The walks of the statements of layer 1. -/
import Derived.Test.YticcedempclapaaOctetsRef
import Derived.Deep.RegionHeld3
namespace Go.Proofs.Yticcedempclapaa.Octets
open Go Go.RowKit Go.Proofs.Yticcedempclapaa

theorem new_any (s : ByteArray) (w : World) :
    Calls Try.prog 31 #[.string s] w (fun e w' => e = .returned (.pointer (some ⟨w.heap.size, 0, none⟩)) ∧ Below w.heap.size w w' ∧ Box w' w.heap.size (cut s 0 0)) := by
  go_enter Try.func31, Try.ntmps31
  go_wp2_with fail
  go_ret
  exact ⟨rfl, (by repeat (first | with_reducible exact Below.refl _ _ | (with_reducible refine Below.al ?_) | (with_reducible refine Below.drew ?_) | (with_reducible refine Below.set ?_ (by first | (simp; done) | omega | (simp; omega))) | (with_reducible refine Below.thru ?_ (by assumption)) | (with_reducible refine Below.chg ?_ (by assumption) (by first | (simp; done) | omega | (simp; omega))))), by rw [show cut s 0 0 = [.string s, .int .i64 0, .int .i64 0] from rfl]; exact (by (try rw [show ((0 : Nat) : Int) = 0 from rfl]); repeat (first | fail | (with_reducible refine Box.below ?_ (by assumption)) | (with_reducible refine Box.drew ?_) | (with_reducible refine Box.new_at (by first | rfl | (simp; done) | omega)) | (with_reducible refine Box.al ?_) | (with_reducible apply Box.set0) | (with_reducible apply Box.set1) | (with_reducible apply Box.set2) | (with_reducible apply Box.set3) | (with_reducible apply Box.set4) | (with_reducible apply Box.set5) | (with_reducible apply Box.set6) | (with_reducible apply Box.set7) | (with_reducible apply Box.set8) | (with_reducible refine Box.oth ?_ (by first | (simp; done) | omega | (simp; omega))) | (with_reducible refine Box.chg ?_ (by assumption) (by first | (simp; done) | omega | (simp; omega)))))⟩

theorem num_at (c : Nat) (s : ByteArray) (at_ : Nat) (fell n : Int) (w : World) (hB : Box w c (cut s at_ fell)) (hok : okCut s at_ fell) (hn : -9223372036854775808 ≤ n ∧ n ≤ 9223372036854775807)
    {v : Int} {a : Nat} {f : Int} (h1 : numV s at_ fell n = v) (h2 : numA s at_ fell n = a) (h3 : numF s at_ fell n = f) :
    Calls Try.prog 32 #[.pointer (some ⟨c, 0, none⟩), .int .i64 n] w (RetC w c (.int .i64 v) (cut s a f)) := by
  subst h1 h2 h3
  exact num_any c s at_ fell n w hB hok hn
theorem rest_at (c : Nat) (s : ByteArray) (at_ : Nat) (fell : Int) (w : World) (hB : Box w c (cut s at_ fell)) (hok : okCut s at_ fell)
    {b : ByteArray} {a : Nat} {f : Int} (h1 : bytesV s at_ fell ((s.size : Int) - at_) = b) (h2 : bytesA s at_ fell ((s.size : Int) - at_) = a) (h3 : bytesF s at_ fell ((s.size : Int) - at_) = f) :
    Calls Try.prog 36 #[.pointer (some ⟨c, 0, none⟩)] w (RetC w c (.string b) (cut s a f)) := by
  subst h1 h2 h3
  exact rest_any c s at_ fell w hB hok
theorem put_int_at (s : ByteArray) (n size : Int) (w : World) (hs : s.size ≤ 900000000) (hz0 : -9223372036854775807 ≤ size) (hn : -9223372036854775808 ≤ n ∧ n ≤ 9223372036854775807) {r : ByteArray} (h : ⟨(s.data.toList ++ putB n (min size 8).toNat).toArray⟩ = r) :
    Calls Try.prog 42 #[.string s, .int .i64 n, .int .i64 size] w (Ret w (.string r)) := by
  subst h
  exact put_int s n size w hs hz0 hn
theorem of_int_at (s : ByteArray) (w : World) (hs : s.size ≤ 900000000) {v : Int} (h : wrap64 (ofB s.data.toList) = v) :
    Calls Try.prog 44 #[.string s] w (Ret w (.int .i64 v)) := by
  subst h
  exact of_int s w hs

def three : ByteArray := ⟨#[1, 2, 97]⟩
theorem works_law (w : World) : Calls Try.prog 30 #[] w (Ret w (.bool true)) := by
  have ok0 : okCut ⟨#[1, 2, 97]⟩ 0 0 := by unfold okCut; decide
  have ok1 : okCut ⟨#[1, 2, 97]⟩ 2 0 := by unfold okCut; decide
  have ok2 : okCut ⟨#[1, 2, 97]⟩ 3 0 := by unfold okCut; decide
  replace ok0 := Lib.hid ok0; replace ok1 := Lib.hid ok1; replace ok2 := Lib.hid ok2
  go_enter Try.func30, Try.ntmps30
  go_wp2_with fail
  refine Calls.mono (new_any _ _) ?_
  rintro e w1 ⟨rfl, hb1, hB1⟩
  have HB1 := Lib.hid hB1
  have z1 := hB1.lt
  clear hB1
  go_wp2_with fail
  refine Calls.mono (put_int_at ⟨#[97]⟩ 258 2 _ (by decide) (by omega) (by omega) (r := ⟨#[97, 1, 2]⟩) (by decide +kernel)) ?_
  rintro e w2 ⟨rfl, hb2⟩
  have z2 := Below.size hb2; try simp only [World.size_alloc, World.size_setCell, World.size_drew] at z2
  go_wp2_with fail
  refine Calls.mono (of_int_at ⟨#[1, 2]⟩ _ (by decide) (v := 258) (by decide +kernel)) ?_
  rintro e w3 ⟨rfl, hb3⟩
  have z3 := Below.size hb3; try simp only [World.size_alloc, World.size_setCell, World.size_drew] at z3
  go_wp2_with fail
  refine Calls.mono (num_at w.heap.size ⟨#[1, 2, 97]⟩ 0 0 2 _ ((HB1.out.below hb2).below hb3) ok0.out (by omega) (v := 258) (a := 2) (f := 0) (by decide +kernel) (by decide +kernel) (by decide +kernel)) ?_
  rintro e w4 ⟨rfl, hg4, hB4⟩
  have z4 := World.grownBy.size hg4; try simp only [World.size_alloc, World.size_setCell, World.size_drew] at z4
  have HB4 := Lib.hid hB4
  obtain ⟨z4_c, c4_c, f4_c⟩ := hB4
  go_wp2_with fail
  refine Calls.mono (left_any w.heap.size ⟨#[1, 2, 97]⟩ 2 0 _ HB4.out ok1.out) ?_
  rintro e w5 ⟨rfl, hb5⟩
  have z5 := Below.size hb5; try simp only [World.size_alloc, World.size_setCell, World.size_drew] at z5
  go_wp2_with fail
  refine Calls.mono (rest_at w.heap.size ⟨#[1, 2, 97]⟩ 2 0 _ (HB4.out.below hb5) ok1.out (b := ⟨#[97]⟩) (a := 3) (f := 0) (by decide +kernel) (by decide +kernel) (by decide +kernel)) ?_
  rintro e w6 ⟨rfl, hg6, hB6⟩
  have z6 := World.grownBy.size hg6; try simp only [World.size_alloc, World.size_setCell, World.size_drew] at z6
  have HB6 := Lib.hid hB6
  obtain ⟨z6_c, c6_c, f6_c⟩ := hB6
  go_wp2_with fail
  have hd : doneF ⟨#[1, 2, 97]⟩ 3 0 = 0 := by decide +kernel
  replace hd := Lib.hid hd
  refine Calls.mono (done_any w.heap.size ⟨#[1, 2, 97]⟩ 3 0 _ HB6.out ok2.out) ?_
  rintro e w7 ⟨rfl, hb7⟩
  have z7 := Below.size hb7; try simp only [World.size_alloc, World.size_setCell, World.size_drew] at z7
  rw [hd.out]
  go_wp2_with fail
  go_ret
  exact Ret.mk rfl (by repeat (first | with_reducible exact Below.refl _ _ | (with_reducible refine Below.al ?_) | (with_reducible refine Below.drew ?_) | (with_reducible refine Below.set ?_ (by first | (simp; done) | omega | (simp; omega))) | (with_reducible refine Below.thru ?_ (by assumption)) | (with_reducible refine Below.chg ?_ (by assumption) (by first | (simp; done) | omega | (simp; omega)))))

theorem ops_in {w : World} {a : Option Addr} {len cap : Nat} (h : Fits w (.slice 2 (.cons 1 (.int .i64) (.cons 1 (.int .i64) .nil))) [.slice a len cap]) :
    len ≤ maxLen ∧ (len = 0 ∨ ∃ b off, a = some ⟨b, off, none⟩ ∧ b < w.heap.size ∧ ∀ i, i < len → ∃ k n : Int, w.cell? ⟨b, off + i * 2, none⟩ = some (.int .i64 k) ∧ w.cell? ⟨b, off + i * 2 + 1, none⟩ = some (.int .i64 n) ∧ -9223372036854775808 ≤ n ∧ n ≤ 9223372036854775807) := by
  obtain ⟨h0, h1⟩ := fits_slice (by omega) h
  refine ⟨h0, h1.imp id ?_⟩
  rintro ⟨b, off, ha, hb, hi⟩
  refine ⟨b, off, ha, hb, fun i hlt => ?_⟩
  obtain ⟨es, _, hc, hf⟩ := hi i hlt
  obtain ⟨k, n, rfl, _, wn⟩ := fits_ints2 hf
  exact ⟨k, n, hc 0 (by omega), hc 1 (by omega), bounds_i64 wn⟩

theorem num_ok (s : ByteArray) (at_ : Nat) (fell n : Int) (h : okCut s at_ fell) : okCut s (numA s at_ fell n) (numF s at_ fell n) := by
  have hy : 0 ≤ takeF s at_ fell n (bad n) ∧ takeF s at_ fell n (bad n) ≤ 100 := by
    obtain ⟨h0, h1, h2, h3⟩ := h
    unfold takeF
    (repeat' split) <;> omega
  unfold okCut numA numF
  split
  · rename_i hT
    obtain ⟨_, hw, hle⟩ := takeF_zero hT h
    obtain ⟨h0, h1, h2, h3⟩ := h
    have : 1 ≤ n := by unfold bad at hw; simp at hw; omega
    omega
  · obtain ⟨h0, h1, h2, h3⟩ := h
    omega

set_option maxRecDepth 100000 in
set_option maxHeartbeats 2000000 in
theorem reads_walk (s : ByteArray) (ws : s.size ≤ maxLen) (a : Option Addr) (len cap : Nat) (w : World) (h0 : Fits w (.slice 2 (.cons 1 (.int .i64) (.cons 1 (.int .i64) .nil))) [.slice a len cap]) :
    Calls Try.prog 8 #[.string s, .slice a len cap] w (Ret w (.bool true)) := by
  obtain ⟨hlen, hcell⟩ := ops_in h0
  clear h0
  unfold maxLen at hlen ws
  go_enter Try.func8, Try.ntmps8
  go_wp2_with fail
  refine Calls.mono (works_law _) ?_
  rintro e w1 ⟨rfl, hb1⟩
  have z1 := Below.size hb1; try simp only [World.size_alloc, World.size_setCell, World.size_drew] at z1
  have hc3 : (3000 < s.size) ∨ (s.size ≤ 3000 ∧ 200 < len) ∨ (s.size ≤ 3000 ∧ len ≤ 200) := by omega
  rcases hc3 with h | ⟨h, h'⟩ | ⟨h, h'⟩
  · have q1 : decide ((3000 : Int) < (s.size : Int)) = true := decide_eq_true (by omega)
    go_wp2_with fail
    go_ret
    exact Ret.mk rfl (by repeat (first | with_reducible exact Below.refl _ _ | (with_reducible refine Below.al ?_) | (with_reducible refine Below.drew ?_) | (with_reducible refine Below.set ?_ (by first | (simp; done) | omega | (simp; omega))) | (with_reducible refine Below.thru ?_ (by assumption)) | (with_reducible refine Below.chg ?_ (by assumption) (by first | (simp; done) | omega | (simp; omega)))))
  · have q1 : decide ((3000 : Int) < (s.size : Int)) = false := decide_eq_false (by omega)
    have q2 : decide ((200 : Int) < (len : Int)) = true := decide_eq_true (by omega)
    go_wp2_with fail
    go_ret
    exact Ret.mk rfl (by repeat (first | with_reducible exact Below.refl _ _ | (with_reducible refine Below.al ?_) | (with_reducible refine Below.drew ?_) | (with_reducible refine Below.set ?_ (by first | (simp; done) | omega | (simp; omega))) | (with_reducible refine Below.thru ?_ (by assumption)) | (with_reducible refine Below.chg ?_ (by assumption) (by first | (simp; done) | omega | (simp; omega)))))
  · have q1 : decide ((3000 : Int) < (s.size : Int)) = false := decide_eq_false (by omega)
    have q2 : decide ((200 : Int) < (len : Int)) = false := decide_eq_false (by omega)
    have H0 := Lib.hid hcell
    clear hcell
    go_wp2_with fail
    refine Calls.mono (new_any _ _) ?_
    rintro e w2 ⟨rfl, hb2, hB2⟩
    have HB2 := Lib.hid hB2
    have z2 := hB2.lt
    clear hB2
    go_wp2_with fail
    go_loopg [8, 9] len (fun g i _ wr => ∃ (k at_ : Nat) (fell : Int), Below w.heap.size w wr ∧ Box wr w1.heap.size (cut s at_ fell) ∧ Box wr w2.heap.size (cut s at_ fell) ∧ okCut s at_ fell ∧ g = len - k ∧ k ≤ len ∧ i = .int .i64 k)
    case atStart =>
      refine ⟨0, 0, 0, (by repeat (first | with_reducible exact Below.refl _ _ | (with_reducible refine Below.al ?_) | (with_reducible refine Below.drew ?_) | (with_reducible refine Below.set ?_ (by first | (simp; done) | omega | (simp; omega))) | (with_reducible refine Below.thru ?_ (by assumption)) | (with_reducible refine Below.chg ?_ (by assumption) (by first | (simp; done) | omega | (simp; omega))))), (by (try rw [show ((0 : Nat) : Int) = 0 from rfl]); repeat (first | (with_reducible exact Hid.out HB2) | (with_reducible refine Box.below ?_ (by assumption)) | (with_reducible refine Box.drew ?_) | (with_reducible refine Box.new_at (by first | rfl | (simp; done) | omega)) | (with_reducible refine Box.al ?_) | (with_reducible apply Box.set0) | (with_reducible apply Box.set1) | (with_reducible apply Box.set2) | (with_reducible apply Box.set3) | (with_reducible apply Box.set4) | (with_reducible apply Box.set5) | (with_reducible apply Box.set6) | (with_reducible apply Box.set7) | (with_reducible apply Box.set8) | (with_reducible refine Box.oth ?_ (by first | (simp; done) | omega | (simp; omega))) | (with_reducible refine Box.chg ?_ (by assumption) (by first | (simp; done) | omega | (simp; omega))))), ?_, ⟨by omega, by omega, by omega, by omega⟩, by omega, by omega, rfl⟩
      rw [show cut s 0 0 = [.string s, .int .i64 0, .int .i64 0] from rfl]
      exact (by (try rw [show ((0 : Nat) : Int) = 0 from rfl]); repeat (first | fail | (with_reducible refine Box.below ?_ (by assumption)) | (with_reducible refine Box.drew ?_) | (with_reducible refine Box.new_at (by first | rfl | (simp; done) | omega)) | (with_reducible refine Box.al ?_) | (with_reducible apply Box.set0) | (with_reducible apply Box.set1) | (with_reducible apply Box.set2) | (with_reducible apply Box.set3) | (with_reducible apply Box.set4) | (with_reducible apply Box.set5) | (with_reducible apply Box.set6) | (with_reducible apply Box.set7) | (with_reducible apply Box.set8) | (with_reducible refine Box.oth ?_ (by first | (simp; done) | omega | (simp; omega))) | (with_reducible refine Box.chg ?_ (by assumption) (by first | (simp; done) | omega | (simp; omega)))))
    case round =>
      obtain ⟨k, at_, fell, hbw, hA, hB, hok, hg, hk, rfl⟩ := hrel
      have HA := Lib.hid hA
      have HB := Lib.hid hB
      obtain ⟨zA, cA, fA⟩ := hA
      obtain ⟨zB, cB, fB⟩ := hB
      have zw := hbw.size
      by_cases hlt : k < len
      · obtain ⟨b, off, rfl, hbl, hcs⟩ : ∃ b off, a = some ⟨b, off, none⟩ ∧ b < w.heap.size ∧ ∀ i, i < len → ∃ k n : Int, w.cell? ⟨b, off + i * 2, none⟩ = some (.int .i64 k) ∧ w.cell? ⟨b, off + i * 2 + 1, none⟩ = some (.int .i64 n) ∧ -9223372036854775808 ≤ n ∧ n ≤ 9223372036854775807 := by
          rcases H0.out with h | h
          · omega
          · exact h
        obtain ⟨kd, n, e0, e1, hn0, hn1⟩ := hcs k hlt
        rw [← hbw.cell (p := ⟨_, _, _⟩) hbl] at e0 e1
        clear hcs
        have hbr : b < wr.heap.size := by omega
        go_wp2_with fail
        · -- Num
          have hA0 := HA.out.drew
          have hB0 := HB.out.drew
          replace hA0 := Lib.hid hA0; replace hB0 := Lib.hid hB0
          go_region_held3 (fun w' => w'.cell? ⟨b, off + k * 2 + 1, none⟩ = some (.int .i64 n)) (go_keep)
            (first
              | (go_at_call_of 32 (Value.pointer none); refine (num_nil _ _).mono ?_; rintro e w5 ⟨rfl, hb5⟩; have e5 := ((Below.blk hb5 (b := b) (by have q3 : wr.heap.size ≤ w3.heap.size := hg3.size; have q4 : w3.heap.size ≤ w4.heap.size := hg4.size; omega)).1 (off + k * 2 + 1)))
              | (go_at_call 32; refine (num_any w1.heap.size s at_ fell n _ hA0.out hok ⟨hn0, hn1⟩).mono ?_; rintro e w3 ⟨rfl, hg3, hB3⟩; have e3 := (grown_blk hg3 (b := b) (by omega) (show b < wr.heap.size from hbr)).1 (off + k * 2 + 1))
              | (go_at_call 33; refine (rnum_any w2.heap.size s at_ fell n _ (Box.chg hB0.out hg3 (by omega)) hok ⟨hn0, hn1⟩).mono ?_; rintro e w4 ⟨rfl, hg4, hB4⟩; have e4 := (grown_blk hg4 (b := b) (by omega) (by have q3 : wr.heap.size ≤ w3.heap.size := hg3.size; omega)).1 (off + k * 2 + 1)))
          have HA' := Lib.hid ((Box.chg hB3 hg4 (by omega)).below hb5)
          have HB' := Lib.hid (hB4.below hb5)
          have hbw' : Below w.heap.size w w5 := Go.Proofs.Yticcedempclapaa.Below.thru (Go.Proofs.Yticcedempclapaa.Below.chg (Go.Proofs.Yticcedempclapaa.Below.chg hbw.drew hg3 (by omega)) hg4 (by omega)) hb5
          have hok' := (num_ok s at_ fell n hok)
          obtain ⟨o1, o2, o3, o4⟩ := (num_ok s at_ fell n hok)
          have NA := Lib.hid (fun t : Near (w5).heap.size w5 => HA'.out.below t.near)
          have hA' := HA'.out
          have hB' := HB'.out
          obtain ⟨zA', cA', fA'⟩ := hA'
          obtain ⟨zB', cB', fB'⟩ := hB'
          unfold cut at cB' cA'
          have NB := Lib.hid (fun t : Near (w5).heap.size w5 => HB'.out.below t.near)
          replace hok' := Lib.hid hok'
          go_wp2_with fail
          refine wp_region_near (by kernel_rfl) (by kernel_rfl) ?_
          intro hs
          repeat (go_big_quiet_step ((first | (go_at_call 38; exact Calls.near (by simp) (left_any w1.heap.size s (numA s at_ fell n) (numF s at_ fell n) _ (NA.out _) hok'.out)) | (go_at_call 39; exact Calls.near (by simp) (done_any w1.heap.size s (numA s at_ fell n) (numF s at_ fell n) _ (NA.out _) hok'.out)) | (go_at_call 40; exact Calls.near (by simp) (rdone_any w2.heap.size s (numA s at_ fell n) (numF s at_ fell n) _ (NB.out _) hok'.out)))))
          refine wpQuiet_nil ?_
          clear hs
          intro w9 hb9
          go_wp2_with fail
          go_roundg (len - (k + 1))
          case measure => omega
          case rel => exact ⟨k + 1, numA s at_ fell n, numF s at_ fell n, Go.Proofs.Yticcedempclapaa.Below.thru hbw' hb9, HA'.out.below hb9, HB'.out.below hb9, hok'.out, rfl, hlt, by go_num⟩
        · -- Bytes
          have hA0 := HA.out.drew
          have hB0 := HB.out.drew
          replace hA0 := Lib.hid hA0; replace hB0 := Lib.hid hB0
          go_region_held3 (fun w' => w'.cell? ⟨b, off + k * 2 + 1, none⟩ = some (.int .i64 n)) (go_keep)
            (first
              | (go_at_call_of 34 (Value.pointer none); refine (bytes_nil _ _).mono ?_; rintro e w5 ⟨rfl, hb5⟩; have e5 := ((Below.blk hb5 (b := b) (by have q3 : wr.heap.size ≤ w3.heap.size := hg3.size; have q4 : w3.heap.size ≤ w4.heap.size := hg4.size; omega)).1 (off + k * 2 + 1)))
              | (go_at_call 34; refine (bytes_any w1.heap.size s at_ fell n _ hA0.out hok ⟨hn0, hn1⟩).mono ?_; rintro e w3 ⟨rfl, hg3, hB3⟩; have e3 := (grown_blk hg3 (b := b) (by omega) (show b < wr.heap.size from hbr)).1 (off + k * 2 + 1))
              | (go_at_call 35; refine (rbytes_any w2.heap.size s at_ fell n _ (Box.chg hB0.out hg3 (by omega)) hok ⟨hn0, hn1⟩).mono ?_; rintro e w4 ⟨rfl, hg4, hB4⟩; have e4 := (grown_blk hg4 (b := b) (by omega) (by have q3 : wr.heap.size ≤ w3.heap.size := hg3.size; omega)).1 (off + k * 2 + 1)))
          have HA' := Lib.hid ((Box.chg hB3 hg4 (by omega)).below hb5)
          have HB' := Lib.hid (hB4.below hb5)
          have hbw' : Below w.heap.size w w5 := Go.Proofs.Yticcedempclapaa.Below.thru (Go.Proofs.Yticcedempclapaa.Below.chg (Go.Proofs.Yticcedempclapaa.Below.chg hbw.drew hg3 (by omega)) hg4 (by omega)) hb5
          have hok' := (bytes_ok s at_ fell n hok)
          obtain ⟨o1, o2, o3, o4⟩ := (bytes_ok s at_ fell n hok)
          have NA := Lib.hid (fun t : Near (w5).heap.size w5 => HA'.out.below t.near)
          have hA' := HA'.out
          have hB' := HB'.out
          obtain ⟨zA', cA', fA'⟩ := hA'
          obtain ⟨zB', cB', fB'⟩ := hB'
          unfold cut at cB' cA'
          have NB := Lib.hid (fun t : Near (w5).heap.size w5 => HB'.out.below t.near)
          replace hok' := Lib.hid hok'
          go_wp2_with fail
          refine wp_region_near (by kernel_rfl) (by kernel_rfl) ?_
          intro hs
          repeat (go_big_quiet_step ((first | (go_at_call 38; exact Calls.near (by simp) (left_any w1.heap.size s (bytesA s at_ fell n) (bytesF s at_ fell n) _ (NA.out _) hok'.out)) | (go_at_call 39; exact Calls.near (by simp) (done_any w1.heap.size s (bytesA s at_ fell n) (bytesF s at_ fell n) _ (NA.out _) hok'.out)) | (go_at_call 40; exact Calls.near (by simp) (rdone_any w2.heap.size s (bytesA s at_ fell n) (bytesF s at_ fell n) _ (NB.out _) hok'.out)))))
          refine wpQuiet_nil ?_
          clear hs
          intro w9 hb9
          go_wp2_with fail
          go_roundg (len - (k + 1))
          case measure => omega
          case rel => exact ⟨k + 1, bytesA s at_ fell n, bytesF s at_ fell n, Go.Proofs.Yticcedempclapaa.Below.thru hbw' hb9, HA'.out.below hb9, HB'.out.below hb9, hok'.out, rfl, hlt, by go_num⟩
        · -- Rest
          refine Calls.mono (rest_any w1.heap.size s at_ fell _ HA.out hok) ?_
          rintro e w3 ⟨rfl, hg3, hB3⟩
          have z3 : wr.heap.size ≤ w3.heap.size := hg3.size
          go_wp2_with fail
          refine Calls.mono (rrest_any w2.heap.size s at_ fell _ (Box.chg HB.out hg3 (by omega)) hok) ?_
          rintro e w4 ⟨rfl, hg4, hB4⟩
          go_wp2_with fail
          refine Calls.mono (rest_nil _) ?_
          rintro e w5 ⟨rfl, hb5⟩
          have HA' := Lib.hid ((Box.chg hB3 hg4 (by omega)).below hb5)
          have HB' := Lib.hid (hB4.below hb5)
          have hbw' : Below w.heap.size w w5 := Go.Proofs.Yticcedempclapaa.Below.thru (Go.Proofs.Yticcedempclapaa.Below.chg (Go.Proofs.Yticcedempclapaa.Below.chg hbw hg3 (by omega)) hg4 (by omega)) hb5
          have hok' := (bytes_ok s at_ fell ((s.size : Int) - at_) hok)
          obtain ⟨o1, o2, o3, o4⟩ := (bytes_ok s at_ fell ((s.size : Int) - at_) hok)
          have NA := Lib.hid (fun t : Near (w5).heap.size w5 => HA'.out.below t.near)
          have hA' := HA'.out
          have hB' := HB'.out
          obtain ⟨zA', cA', fA'⟩ := hA'
          obtain ⟨zB', cB', fB'⟩ := hB'
          unfold cut at cB' cA'
          have NB := Lib.hid (fun t : Near (w5).heap.size w5 => HB'.out.below t.near)
          replace hok' := Lib.hid hok'
          go_wp2_with fail
          refine wp_region_near (by kernel_rfl) (by kernel_rfl) ?_
          intro hs
          repeat (go_big_quiet_step ((first | (go_at_call 38; exact Calls.near (by simp) (left_any w1.heap.size s (bytesA s at_ fell ((s.size : Int) - at_)) (bytesF s at_ fell ((s.size : Int) - at_)) _ (NA.out _) hok'.out)) | (go_at_call 39; exact Calls.near (by simp) (done_any w1.heap.size s (bytesA s at_ fell ((s.size : Int) - at_)) (bytesF s at_ fell ((s.size : Int) - at_)) _ (NA.out _) hok'.out)) | (go_at_call 40; exact Calls.near (by simp) (rdone_any w2.heap.size s (bytesA s at_ fell ((s.size : Int) - at_)) (bytesF s at_ fell ((s.size : Int) - at_)) _ (NB.out _) hok'.out)))))
          refine wpQuiet_nil ?_
          clear hs
          intro w9 hb9
          go_wp2_with fail
          go_roundg (len - (k + 1))
          case measure => omega
          case rel => exact ⟨k + 1, bytesA s at_ fell ((s.size : Int) - at_), bytesF s at_ fell ((s.size : Int) - at_), Go.Proofs.Yticcedempclapaa.Below.thru hbw' hb9, HA'.out.below hb9, HB'.out.below hb9, hok'.out, rfl, hlt, by go_num⟩
        · -- another kind
          have HA' := HA
          have HB' := HB
          have hbw' := hbw
          have hok' := hok
          obtain ⟨o1, o2, o3, o4⟩ := hok
          have NA := Lib.hid (fun t : Near (wr).heap.size wr => HA'.out.below t.near)
          have hA' := HA'.out
          have hB' := HB'.out
          obtain ⟨zA', cA', fA'⟩ := hA'
          obtain ⟨zB', cB', fB'⟩ := hB'
          unfold cut at cB' cA'
          have NB := Lib.hid (fun t : Near (wr).heap.size wr => HB'.out.below t.near)
          replace hok' := Lib.hid hok'
          go_wp2_with fail
          refine wp_region_near (by kernel_rfl) (by kernel_rfl) ?_
          intro hs
          repeat (go_big_quiet_step ((first | (go_at_call 38; exact Calls.near (by simp) (left_any w1.heap.size s (at_) (fell) _ (NA.out _) hok'.out)) | (go_at_call 39; exact Calls.near (by simp) (done_any w1.heap.size s (at_) (fell) _ (NA.out _) hok'.out)) | (go_at_call 40; exact Calls.near (by simp) (rdone_any w2.heap.size s (at_) (fell) _ (NB.out _) hok'.out)))))
          refine wpQuiet_nil ?_
          clear hs
          intro w9 hb9
          go_wp2_with fail
          go_roundg (len - (k + 1))
          case measure => omega
          case rel => exact ⟨k + 1, at_, fell, Go.Proofs.Yticcedempclapaa.Below.thru hbw' hb9, HA'.out.below hb9, HB'.out.below hb9, hok'.out, rfl, hlt, by go_num⟩
      · go_wp2_with fail
        refine Calls.mono (left_nil _) ?_
        rintro e w3 ⟨rfl, hb3⟩
        have z3 := Below.size hb3; try simp only [World.size_alloc, World.size_setCell, World.size_drew] at z3
        go_wp2_with fail
        refine Calls.mono (done_nil _) ?_
        rintro e w4 ⟨rfl, hb4⟩
        have z4 := Below.size hb4; try simp only [World.size_alloc, World.size_setCell, World.size_drew] at z4
        go_wp2_with fail
        go_ret
        exact Ret.mk rfl (by repeat (first | with_reducible exact Below.refl _ _ | (with_reducible refine Below.al ?_) | (with_reducible refine Below.drew ?_) | (with_reducible refine Below.set ?_ (by first | (simp; done) | omega | (simp; omega))) | (with_reducible refine Below.thru ?_ (by assumption)) | (with_reducible refine Below.chg ?_ (by assumption) (by first | (simp; done) | omega | (simp; omega)))))
end Go.Proofs.Yticcedempclapaa.Octets
