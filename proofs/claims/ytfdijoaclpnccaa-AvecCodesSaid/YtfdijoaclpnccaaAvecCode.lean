/- The walks of avec.Get; of the answer's Many, Check, Put, Get. -/
import Derived.Test.YtfdijoaclpnccaaAvecLaw
import Derived.Test.YtfdijoaclpnccaaMade
namespace Go.Proofs.Ytfdijoaclpnccaa.Avec
set_option linter.unusedSimpArgs false
set_option linter.unusedVariables false
open Go Go.RowKit Go.Proofs.Ytfdijoaclpnccaa Go.Proofs.Ytfdijoaclpnccaa.Circ
attribute [local irreducible] Calls

set_option maxRecDepth 100000 in
theorem rmany_any (l : List Run) (n : Nat) (hl : l.length = n) (hn : n ≤ 100000000) (a : Option Addr) (cap : Nat) (w : World) (h : Rd w a (runs l)) :
    Calls Try.prog 67 #[.slice a n cap] w (Ret w (.int .i64 (manyL l))) := by
  replace h := Lib.hid h; replace hl := Lib.hid hl
  go_enter Try.func67, Try.ntmps67
  go_wp2_with fail
  go_loopg [3, 4] n (fun g z i wr => ∃ (j : Nat) (m : Int), j ≤ n ∧ g = n - j ∧ i = .int .i64 j ∧ z = .int .i64 m ∧ Hid (m = manyL (l.take j)) ∧ 0 ≤ m ∧ m ≤ 64 * j ∧ Below w.heap.size w wr)
  case atStart => exact ⟨0, 0, by omega, by omega, rfl, rfl, rfl, by omega, by omega, (by repeat (first | with_reducible exact Below.refl _ _ | (with_reducible refine Below.al ?_) | (with_reducible refine Below.drew ?_) | (with_reducible refine Below.set ?_ (by first | (simp; done) | omega | (simp; omega))) | (with_reducible refine Below.thru ?_ (by assumption)) | (with_reducible refine Below.chg ?_ (by assumption) (by first | (simp; done) | omega | (simp; omega)))))⟩
  case round =>
    obtain ⟨j, m, hj, hg, rfl, rfl, hm, hm0, hm1, hbw⟩ := hrel
    by_cases hlt : j < n
    · have hjl : j < l.length := by have := hl.out; omega
      obtain ⟨b, off, rfl, hb, hc⟩ := runs_at (h.out.below hbw) hl.out (by omega)
      obtain ⟨e0, e1⟩ := hc j hjl
      have hnx : m + heldI l[j].many = manyL (l.take (j + 1)) := by rw [hm.out]; unfold manyL; rw [foldl_take _ _ _ _ hjl]
      have hbd := held_bd l[j].many
      have P1 := fun W => held_ref l[j].many W
      clear hc
      generalize l[j] = r at *
      replace hnx := Lib.hid hnx; replace P1 := Lib.hid P1
      go_wp2_with fail
      refine Calls.mono (P1.out _) ?_
      rintro e w1 ⟨rfl, hb1⟩
      have z1 := Below.size hb1; try simp only [World.size_alloc, World.size_setCell, World.size_drew] at z1
      clear P1
      go_wp2_with fail
      go_roundg (n - (j + 1))
      case measure => omega
      case rel => exact ⟨j + 1, m + heldI r.many, by omega, rfl, by go_num, rfl, hnx, by omega, by omega, (by repeat (first | with_reducible exact Below.refl _ _ | (with_reducible refine Below.al ?_) | (with_reducible refine Below.drew ?_) | (with_reducible refine Below.set ?_ (by first | (simp; done) | omega | (simp; omega))) | (with_reducible refine Below.thru ?_ (by assumption)) | (with_reducible refine Below.chg ?_ (by assumption) (by first | (simp; done) | omega | (simp; omega)))))⟩
    · obtain rfl : j = n := by omega
      have hf : m = manyL l := by rw [hm.out, List.take_of_length_le (by have := hl.out; omega)]
      replace hf := Lib.hid hf
      go_wp2_with fail
      go_ret
      exact Ret.mk (by rw [hf.out]; rfl) (by repeat (first | with_reducible exact Below.refl _ _ | (with_reducible refine Below.al ?_) | (with_reducible refine Below.drew ?_) | (with_reducible refine Below.set ?_ (by first | (simp; done) | omega | (simp; omega))) | (with_reducible refine Below.thru ?_ (by assumption)) | (with_reducible refine Below.chg ?_ (by assumption) (by first | (simp; done) | omega | (simp; omega)))))

set_option maxRecDepth 100000 in
set_option maxHeartbeats 400000 in
theorem rcheck_any (l : List Run) (n : Nat) (hl : l.length = n) (hn : n ≤ 100000000) (a : Option Addr) (cap : Nat) (w : World) (h : Rd w a (runs l)) :
    Calls Try.prog 65 #[.slice a n cap] w (Ret w (.int .i64 (checkL l))) := by
  replace h := Lib.hid h; replace hl := Lib.hid hl
  go_enter Try.func65, Try.ntmps65
  go_wp2_with fail
  go_loopg [3] n (fun g i wr => ∃ (j : Nat), j ≤ n ∧ g = n - j ∧ i = .int .i64 j ∧ Hid (∀ k (hk : k < l.length), k < j → badR l[k] = 0) ∧ Below w.heap.size w wr)
  case atStart => exact ⟨0, by omega, by omega, rfl, (fun k hk h => by omega), (by repeat (first | with_reducible exact Below.refl _ _ | (with_reducible refine Below.al ?_) | (with_reducible refine Below.drew ?_) | (with_reducible refine Below.set ?_ (by first | (simp; done) | omega | (simp; omega))) | (with_reducible refine Below.thru ?_ (by assumption)) | (with_reducible refine Below.chg ?_ (by assumption) (by first | (simp; done) | omega | (simp; omega)))))⟩
  case round =>
    obtain ⟨j, hj, hg, rfl, hok, hbw⟩ := hrel
    by_cases hlt : j < n
    · have hjl : j < l.length := by have := hl.out; omega
      obtain ⟨b, off, rfl, hb, hc⟩ := runs_at (h.out.below hbw) hl.out (by omega)
      obtain ⟨e0, e1⟩ := hc j hjl
      have K := fun W => known_ref l[j].state W
      have hit := fun h => bad_hit l j hjl hok.out h
      have hnx : badR l[j] = 0 → ∀ k (hk : k < l.length), k < j + 1 → badR l[k] = 0 := fun h0 k hk h1 => by
        by_cases e : k = j
        · subst e; exact h0
        · exact hok.out k hk (by omega)
      have hbd : badR l[j] = if knownB l[j].state then (if l[j].many < 1 ∨ 64 < l[j].many then 3 else 0) else 7 := rfl
      clear hc
      generalize l[j] = r at *
      cases hk : knownB r.state with
      | false =>
        rw [hk] at K hbd
        have hb7 : badR r = 7 := by rw [hbd]; rfl
        have hr : checkL l = 7 := by
          unfold checkL
          rw [hit (by rw [hb7]; decide), hb7]
          rfl
        replace hr := Lib.hid hr; replace K := Lib.hid K
        clear hbd hnx hit
        go_wp2_with fail
        refine Calls.mono (K.out _) ?_
        rintro e w3 ⟨rfl, hb3⟩
        have z3 := Below.size hb3; try simp only [World.size_alloc, World.size_setCell, World.size_drew] at z3
        obtain ⟨c3_0, f3_0⟩ := Below.blk hb3 (b := b) (by first | (simp; done) | omega | (simp; omega))
        have z3_0 : b < w3.heap.size := (by first | (simp; done) | omega | (simp; omega))
        clear K
        go_wp2_with fail
        go_ret
        exact Ret.mk (by rw [hr.out]; rfl) (by repeat (first | with_reducible exact Below.refl _ _ | (with_reducible refine Below.al ?_) | (with_reducible refine Below.drew ?_) | (with_reducible refine Below.set ?_ (by first | (simp; done) | omega | (simp; omega))) | (with_reducible refine Below.thru ?_ (by assumption)) | (with_reducible refine Below.chg ?_ (by assumption) (by first | (simp; done) | omega | (simp; omega)))))
      | true =>
        rw [hk] at K hbd
        replace hbd : badR r = if r.many < 1 ∨ 64 < r.many then 3 else 0 := hbd
        by_cases m1 : r.many < 1
        · have q1 : decide (r.many < 1) = true := decide_eq_true m1
          rw [if_pos (.inl m1)] at hbd
          have hr : checkL l = 3 := by
            unfold checkL
            rw [hit (by rw [hbd]; decide), hbd]
            rfl
          replace hr := Lib.hid hr; replace K := Lib.hid K
          clear hbd hnx hit
          go_wp2_with fail
          refine Calls.mono (K.out _) ?_
          rintro e w3 ⟨rfl, hb3⟩
          have z3 := Below.size hb3; try simp only [World.size_alloc, World.size_setCell, World.size_drew] at z3
          obtain ⟨c3_0, f3_0⟩ := Below.blk hb3 (b := b) (by first | (simp; done) | omega | (simp; omega))
          have z3_0 : b < w3.heap.size := (by first | (simp; done) | omega | (simp; omega))
          clear K
          go_wp2_with fail
          go_ret
          exact Ret.mk (by rw [hr.out]; rfl) (by repeat (first | with_reducible exact Below.refl _ _ | (with_reducible refine Below.al ?_) | (with_reducible refine Below.drew ?_) | (with_reducible refine Below.set ?_ (by first | (simp; done) | omega | (simp; omega))) | (with_reducible refine Below.thru ?_ (by assumption)) | (with_reducible refine Below.chg ?_ (by assumption) (by first | (simp; done) | omega | (simp; omega)))))
        · have q1 : decide (r.many < 1) = false := decide_eq_false m1
          by_cases m2 : 64 < r.many
          · have q2 : decide (64 < r.many) = true := decide_eq_true m2
            rw [if_pos (.inr m2)] at hbd
            have hr : checkL l = 3 := by
              unfold checkL
              rw [hit (by rw [hbd]; decide), hbd]
              rfl
            replace hr := Lib.hid hr; replace K := Lib.hid K
            clear hbd hnx hit
            go_wp2_with fail
            refine Calls.mono (K.out _) ?_
            rintro e w3 ⟨rfl, hb3⟩
            have z3 := Below.size hb3; try simp only [World.size_alloc, World.size_setCell, World.size_drew] at z3
            obtain ⟨c3_0, f3_0⟩ := Below.blk hb3 (b := b) (by first | (simp; done) | omega | (simp; omega))
            have z3_0 : b < w3.heap.size := (by first | (simp; done) | omega | (simp; omega))
            clear K
            go_wp2_with fail
            go_ret
            exact Ret.mk (by rw [hr.out]; rfl) (by repeat (first | with_reducible exact Below.refl _ _ | (with_reducible refine Below.al ?_) | (with_reducible refine Below.drew ?_) | (with_reducible refine Below.set ?_ (by first | (simp; done) | omega | (simp; omega))) | (with_reducible refine Below.thru ?_ (by assumption)) | (with_reducible refine Below.chg ?_ (by assumption) (by first | (simp; done) | omega | (simp; omega)))))
          · have q2 : decide (64 < r.many) = false := decide_eq_false m2
            rw [if_neg (by omega)] at hbd
            replace hnx := hnx hbd
            replace K := Lib.hid K; replace hnx := Lib.hid hnx
            clear hbd hit
            go_wp2_with fail
            refine Calls.mono (K.out _) ?_
            rintro e w3 ⟨rfl, hb3⟩
            have z3 := Below.size hb3; try simp only [World.size_alloc, World.size_setCell, World.size_drew] at z3
            obtain ⟨c3_0, f3_0⟩ := Below.blk hb3 (b := b) (by first | (simp; done) | omega | (simp; omega))
            have z3_0 : b < w3.heap.size := (by first | (simp; done) | omega | (simp; omega))
            clear K
            go_wp2_with fail
            go_roundg (n - (j + 1))
            case measure => omega
            case rel => exact ⟨j + 1, by omega, rfl, by go_num, hnx, (by repeat (first | with_reducible exact Below.refl _ _ | (with_reducible refine Below.al ?_) | (with_reducible refine Below.drew ?_) | (with_reducible refine Below.set ?_ (by first | (simp; done) | omega | (simp; omega))) | (with_reducible refine Below.thru ?_ (by assumption)) | (with_reducible refine Below.chg ?_ (by assumption) (by first | (simp; done) | omega | (simp; omega)))))⟩
    · obtain rfl : j = n := by omega
      have h0 := bad_none l (fun k hk => hok.out k hk (by have := hl.out; omega))
      have M := rmany_any l j hl.out hn a cap wr (h.out.below hbw)
      obtain ⟨m0, m1⟩ := many_bd l
      have hlo := hl.out
      by_cases hm : 128 < manyL l
      · have hr : checkL l = 11 := by unfold checkL; rw [h0, if_pos rfl, if_pos hm]
        have q : decide (128 < manyL l) = true := decide_eq_true hm
        replace hr := Lib.hid hr; replace M := Lib.hid M
        clear h0
        go_wp2_with fail
        refine Calls.mono (M.out) ?_
        rintro e w1 ⟨rfl, hb1⟩
        have z1 := Below.size hb1; try simp only [World.size_alloc, World.size_setCell, World.size_drew] at z1
        go_wp2_with fail
        go_ret
        exact Ret.mk (by rw [hr.out]; rfl) (by repeat (first | with_reducible exact Below.refl _ _ | (with_reducible refine Below.al ?_) | (with_reducible refine Below.drew ?_) | (with_reducible refine Below.set ?_ (by first | (simp; done) | omega | (simp; omega))) | (with_reducible refine Below.thru ?_ (by assumption)) | (with_reducible refine Below.chg ?_ (by assumption) (by first | (simp; done) | omega | (simp; omega)))))
      · have hr : checkL l = 0 := by unfold checkL; rw [h0, if_pos rfl, if_neg hm]
        have q : decide (128 < manyL l) = false := decide_eq_false hm
        replace hr := Lib.hid hr; replace M := Lib.hid M
        clear h0
        go_wp2_with fail
        refine Calls.mono (M.out) ?_
        rintro e w1 ⟨rfl, hb1⟩
        have z1 := Below.size hb1; try simp only [World.size_alloc, World.size_setCell, World.size_drew] at z1
        go_wp2_with fail
        go_ret
        exact Ret.mk (by rw [hr.out]; rfl) (by repeat (first | with_reducible exact Below.refl _ _ | (with_reducible refine Below.al ?_) | (with_reducible refine Below.drew ?_) | (with_reducible refine Below.set ?_ (by first | (simp; done) | omega | (simp; omega))) | (with_reducible refine Below.thru ?_ (by assumption)) | (with_reducible refine Below.chg ?_ (by assumption) (by first | (simp; done) | omega | (simp; omega)))))
set_option maxRecDepth 100000 in
set_option maxHeartbeats 400000 in
theorem rput_bad (l : List Run) (n : Nat) (hl : l.length = n) (hn : n ≤ 100000000) (a : Option Addr) (cap : Nat) (w : World) (h : Rd w a (runs l)) (hc : checkL l ≠ 0) :
    Calls Try.prog 61 #[.slice a n cap] w (Ret w (.tuple #[.string ⟨#[]⟩, .int .i64 (checkL l)])) := by
  have C := rcheck_any l n hl hn a cap w h
  have q : (checkL l == 0) = false := by simpa using hc
  have q' : (checkL l != 0) = true := by simpa using hc
  have q2 : decide (checkL l = 0) = false := decide_eq_false hc
  generalize checkL l = e at *
  clear h hc
  go_enter Try.func61, Try.ntmps61
  go_wp2_with fail
  refine Calls.mono (C) ?_
  rintro e w1 ⟨rfl, hb1⟩
  have z1 := Below.size hb1; try simp only [World.size_alloc, World.size_setCell, World.size_drew] at z1
  go_wp2_with fail
  go_ret2
  exact Ret.mk rfl (by repeat (first | with_reducible exact Below.refl _ _ | (with_reducible refine Below.al ?_) | (with_reducible refine Below.drew ?_) | (with_reducible refine Below.set ?_ (by first | (simp; done) | omega | (simp; omega))) | (with_reducible refine Below.thru ?_ (by assumption)) | (with_reducible refine Below.chg ?_ (by assumption) (by first | (simp; done) | omega | (simp; omega)))))
/-- The text of bytes. -/
def txt (l : List UInt8) : ByteArray := ⟨l.toArray⟩
theorem txt_snoc (l : List UInt8) (x : UInt8) : txt l ++ txt [x] = txt (l ++ [x]) := by
  apply ByteArray.ext
  simp [txt]
theorem txt_size (l : List UInt8) : (txt l).size = l.length := by simp [txt, ByteArray.size]
set_option maxRecDepth 100000 in
set_option maxHeartbeats 1000000 in
theorem rput_ok (l : List Run) (n : Nat) (hl : l.length = n) (hn : n ≤ 1000000) (a : Option Addr) (cap : Nat) (w : World) (h : Rd w a (runs l)) (hc : checkL l = 0) :
    Calls Try.prog 61 #[.slice a n cap] w (Ret w (.tuple #[.string ⟨(putL l).toArray⟩, .int .i64 0])) := by
  have C := rcheck_any l n hl (by omega) a cap w h
  rw [hc] at C
  have hb0 : badL l = 0 := by
    unfold checkL at hc
    split at hc
    · assumption
    · exact hc
  have hgood := bad_zero hb0
  clear hc hb0
  replace h := Lib.hid h; replace hl := Lib.hid hl; replace hgood := Lib.hid hgood
  go_enter Try.func61, Try.ntmps61
  go_wp2_with fail
  refine Calls.mono (C) ?_
  rintro e w1 ⟨rfl, hb1⟩
  have z1 := Below.size hb1; try simp only [World.size_alloc, World.size_setCell, World.size_drew] at z1
  clear C
  go_wp2_with fail
  go_loopg [5, 6] n (fun g t i wr => ∃ (j : Nat), j ≤ n ∧ g = n - j ∧ i = .int .i64 j ∧ t = .string (txt (putL (l.take j))) ∧ Below w.heap.size w wr)
  case atStart => exact ⟨0, by omega, by omega, rfl, rfl, (by repeat (first | with_reducible exact Below.refl _ _ | (with_reducible refine Below.al ?_) | (with_reducible refine Below.drew ?_) | (with_reducible refine Below.set ?_ (by first | (simp; done) | omega | (simp; omega))) | (with_reducible refine Below.thru ?_ (by assumption)) | (with_reducible refine Below.chg ?_ (by assumption) (by first | (simp; done) | omega | (simp; omega)))))⟩
  case round =>
    obtain ⟨j, hj, hg, rfl, rfl, hbw⟩ := hrel
    by_cases hlt : j < n
    · have hjl : j < l.length := by have := hl.out; omega
      obtain ⟨b, off, rfl, hb, hc⟩ := runs_at (h.out.below hbw) hl.out (by omega)
      obtain ⟨e0, e1⟩ := hc j hjl
      obtain ⟨g1, g2, g3⟩ := hgood.out l[j] (List.getElem_mem hjl)
      have hnat := byteR_nat g1 g2 g3
      have hnx := putL_take hjl
      have hpl : (txt (putL (l.take j))).size ≤ 1000000 := by rw [txt_size]; simp [putL]; omega
      replace hnx : txt (putL (l.take (j + 1))) = txt (putL (l.take j)) ++ txt [byteR l[j]] := by rw [hnx, txt_snoc]
      clear hc
      generalize l[j] = r at *
      obtain ⟨s, m⟩ := r
      simp only at g1 g2 g3 hnat e0 e1
      obtain ⟨c, hcc⟩ : ∃ c : UInt8, c = byteR ⟨s, m⟩ := ⟨_, rfl⟩
      rw [← hcc] at hnat hnx
      have u1 : IntKind.i64.wrap (64 * s) = 64 * s := IntWalk.i64_in _ (by omega)
      have u2 : IntKind.i64.wrap (64 * s + m) = 64 * s + m := IntWalk.i64_in _ (by omega)
      have u3 : IntKind.i64.wrap (64 * s + m - 1) = (c.toNat : Int) := by rw [IntWalk.i64_in _ (by omega)]; omega
      have hu8 : (c.toNat : Int) % 256 = (c.toNat : Int) := by have := c.toNat_lt; omega
      have H := (St.zero w).thru hbw
      generalize txt (putL (l.take j)) = t0 at *
      replace H := Lib.hid H; replace hnx := Lib.hid hnx; replace hcc := Lib.hid hcc; replace hnat := Lib.hid hnat
      go_wp2_with fail
      refine wp_region_made0 [0, 1, 2, 3, 4, 5, 6, 7, 8, 9, 10, 11, 12, 13, 14] [true, true, true, true, true, true, true, true, true, true, true, true, true, true, true, false, false, false, false] 4 #[true, true, true, true, true, true, true, true, true, true, true, true, true, true, true, false, false, false, false] (by kernel_rfl) rfl (by kernel_rfl) (by kernel_rfl) rfl (by kernel_rfl) (by kernel_rfl) (by intro c a a' w e h; obtain ⟨t, d⟩ := a; obtain ⟨t', d'⟩ := a'; obtain rfl : d = d' := e; exact h) ?_
      intro hs
      simp only [pickB]
      repeat (go_big_quiet_step (fail))
      refine wpQuiet_nil ?_
      clear hs
      intro W hW
      have H' : St w none0 W [] := by rw [hW]; exact H.out
      replace hW := Lib.hid hW
      have hc256 : c.toNat < 256 := c.toNat_lt
      refine held_one (i := 15) (by kernel_rfl) fun K hK => ?_
      simp only [List.drop_succ_cons, List.drop_zero, List.take_succ_cons, List.take_zero]
      go_wp2_with fail
      have E1 := ((St.zero W).alloc [.int .u8 (c.toNat : Int)] 5).drew
      refine hK _ _ E1.below ?_
      clear hK K
      have hstr := run_byte (P := Try.prog) _ _ _ Try.underlying61 Try.underlying5 Try.underlying9 hc256 (E1.box 0 rfl)
      rw [show UInt8.ofNat c.toNat = c by simp] at hstr
      have y2 : (⟨#[c]⟩ : ByteArray).size = 1 := rfl
      refine held_one (i := 16) (by kernel_rfl) fun K hK => ?_
      simp only [List.drop_succ_cons, List.drop_zero, List.take_succ_cons, List.take_zero]
      go_wp2_with fail
      refine hK _ _ E1.below ?_
      clear hK K
      refine held_one (i := 17) (by kernel_rfl) fun K hK => ?_
      simp only [List.drop_succ_cons, List.drop_zero, List.take_succ_cons, List.take_zero]
      go_wp2_with fail
      refine hK _ _ E1.below ?_
      clear hK K
      refine held_one (i := 18) (by kernel_rfl) fun K hK => ?_
      simp only [List.drop_succ_cons, List.drop_zero, List.take_succ_cons, List.take_zero]
      go_wp2_with fail
      refine hK _ _ E1.below ?_
      clear hK K
      refine held_done (by kernel_rfl) ?_
      have hbf := (H'.add E1).below
      replace hbf := Lib.hid hbf
      go_wp2_with fail
      go_roundg (n - (j + 1))
      case measure => omega
      case rel => exact ⟨j + 1, by omega, rfl, by go_num, by rw [hnx.out]; rfl, hbf.out⟩
    · obtain rfl : j = n := by omega
      rw [show l.take j = l from List.take_of_length_le (by have := hl.out; omega)]
      go_wp2_with fail
      go_ret2
      exact Ret.mk rfl (by repeat (first | with_reducible exact Below.refl _ _ | (with_reducible refine Below.al ?_) | (with_reducible refine Below.drew ?_) | (with_reducible refine Below.set ?_ (by first | (simp; done) | omega | (simp; omega))) | (with_reducible refine Below.thru ?_ (by assumption)) | (with_reducible refine Below.chg ?_ (by assumption) (by first | (simp; done) | omega | (simp; omega)))))
end Go.Proofs.Ytfdijoaclpnccaa.Avec
