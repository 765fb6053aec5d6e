/- The walks of what the document has heard, as it begins: Got. -/
import Derived.Test.YtpajedpkdfacoaaCcRefB
namespace Go.Proofs.Ytpajedpkdfacoaa.CcRef
set_option linter.unusedSimpArgs false
set_option linter.unusedVariables false
open Go Go.RowKit Go.Shelf Go.Proofs.Ytpajedpkdfacoaa Go.Proofs.Ytpajedpkdfacoaa.Circ
attribute [local irreducible] Calls

theorem int_info : (Try.prog.info? 3).map (fun i => (i.zero, i.size, i.bytes)) = some (some (.int .i64 0), 1, 8) := by kernel_rfl
def hW (f1 n1 : Int) (v : Value) (u : Int) : List Value := [.int .i64 f1, .int .i64 n1, v, .int .i64 u, .int .i64 0]
section
variable {W w : World} {S : Nat → Prop} {b p f g : Nat} {n : Int} {r : List Asn}
def manyH (f1 n1 : Int) : Int := min (manyC f1 n1) 128
theorem hmany_st {f1 n1 u : Int} {v : Value} (H : St W S w (cellA p (hW f1 n1 v u) :: r)) : Calls Try.prog 133 #[.pointer (some ⟨p, 0, none⟩)] w (Ret w (.int .i64 (manyH f1 n1))) := by
  obtain ⟨z, c, ff⟩ := H.box 0 rfl
  unfold hW at c
  have e0 := c 0
  have e1 := c 1
  unfold manyH
  clear H c
  go_enter Try.func133, Try.ntmps133
  go_wp2_with fail
  refine wp_region_near_tail 8 (by kernel_rfl) (by kernel_rfl) ?_
  intro hs
  simp only [List.take_succ_cons, List.take_zero, List.drop_succ_cons, List.drop_zero]
  repeat (go_big_quiet_step (fail))
  refine wpQuiet_nil ?_
  clear hs
  intro w1 hb1
  go_wp2_with fail
  refine Calls.mono (rmany_any _ _ _) ?_
  rintro e w2 ⟨rfl, hb2⟩
  have z2 := Below.size hb2; try simp only [World.size_alloc, World.size_setCell, World.size_drew] at z2
  go_wp2_with fail
  go_ret
  exact Ret.mk rfl (by repeat (first | with_reducible exact Below.refl _ _ | (with_reducible refine Below.al ?_) | (with_reducible refine Below.drew ?_) | (with_reducible refine Below.set ?_ (by first | (simp; done) | omega | (simp; omega))) | (with_reducible refine Below.thru ?_ (by assumption)) | (with_reducible refine Below.chg ?_ (by assumption) (by first | (simp; done) | omega | (simp; omega)))))
def inH (f1 n1 s : Int) : Bool := decide (0 ≤ farC n1 s) && decide (farC n1 s < manyH f1 n1)
theorem hin_st {f1 n1 u : Int} {v : Value} (s : Int) (H : St W S w (cellA p (hW f1 n1 v u) :: r)) : Calls Try.prog 99 #[.pointer (some ⟨p, 0, none⟩), .int .i64 s] w (Ret w (.bool (inH f1 n1 s))) := by
  obtain ⟨z, c, ff⟩ := H.box 0 rfl
  unfold hW at c
  have e1 := c 1
  clear c
  have P := fun W => rfar_any n1 s W
  unfold inH
  obtain ⟨d, hd⟩ : ∃ d, farC n1 s = d := ⟨_, rfl⟩
  rw [hd] at P ⊢
  clear hd
  have PM := fun w' hb => hmany_st (H.thru (w' := w') hb)
  obtain ⟨m, hm⟩ : ∃ m, manyH f1 n1 = m := ⟨_, rfl⟩
  rw [hm] at PM ⊢
  clear hm H
  by_cases h0 : 0 ≤ d
  · have q : decide (0 ≤ d) = true := decide_eq_true h0
    rw [q, Bool.true_and]
    replace P := Lib.hid P; replace PM := Lib.hid PM
    go_enter Try.func99, Try.ntmps99
    go_wp2_with fail
    refine Calls.mono (P.out _) ?_
    rintro e w1 ⟨rfl, hb1⟩
    have z1 := Below.size hb1; try simp only [World.size_alloc, World.size_setCell, World.size_drew] at z1
    go_wp2_with fail
    refine Calls.mono (PM.out _ hb1) ?_
    rintro e w2 ⟨rfl, hb2⟩
    have z2 := Below.size hb2; try simp only [World.size_alloc, World.size_setCell, World.size_drew] at z2
    go_wp2_with fail
    go_ret
    exact Ret.mk rfl (by repeat (first | with_reducible exact Below.refl _ _ | (with_reducible refine Below.al ?_) | (with_reducible refine Below.drew ?_) | (with_reducible refine Below.set ?_ (by first | (simp; done) | omega | (simp; omega))) | (with_reducible refine Below.thru ?_ (by assumption)) | (with_reducible refine Below.chg ?_ (by assumption) (by first | (simp; done) | omega | (simp; omega)))))
  · have q : decide (0 ≤ d) = false := decide_eq_false h0
    rw [q, Bool.false_and]
    replace P := Lib.hid P; replace PM := Lib.hid PM
    go_enter Try.func99, Try.ntmps99
    go_wp2_with fail
    refine Calls.mono (P.out _) ?_
    rintro e w1 ⟨rfl, hb1⟩
    have z1 := Below.size hb1; try simp only [World.size_alloc, World.size_setCell, World.size_drew] at z1
    go_wp2_with fail
    go_ret
    exact Ret.mk rfl (by repeat (first | with_reducible exact Below.refl _ _ | (with_reducible refine Below.al ?_) | (with_reducible refine Below.drew ?_) | (with_reducible refine Below.set ?_ (by first | (simp; done) | omega | (simp; omega))) | (with_reducible refine Below.thru ?_ (by assumption)) | (with_reducible refine Below.chg ?_ (by assumption) (by first | (simp; done) | omega | (simp; omega)))))
theorem hcame_st {f1 n1 u : Int} (s : Int) (hn : n = ofC s) (H : St W S w (cellA p (hW f1 n1 (.slice (some ⟨g, 0, none⟩) 1 1) u) :: cellA g [.int .i64 n] :: r)) : Calls Try.prog 100 #[.pointer (some ⟨p, 0, none⟩), .int .i64 s] w (Ret w (.bool true)) := by
  obtain ⟨z, c, ff⟩ := H.box 0 rfl
  obtain ⟨z2, c2, ff2⟩ := H.box 1 rfl
  unfold hW at c
  have e2 := c 2
  have g0 := c2 0
  have P := fun W => rof_any s W
  rw [← hn] at P
  clear hn c c2 H
  have q : (n == n) = true := by simp
  replace P := Lib.hid P
  go_enter Try.func100, Try.ntmps100
  go_wp2_with fail
  go_loopg [5] 1 (fun g0 i wr => i = .int .i64 0 ∧ g0 = 1 ∧ Below w.heap.size w wr)
  case atStart => exact ⟨rfl, rfl, (by repeat (first | with_reducible exact Below.refl _ _ | (with_reducible refine Below.al ?_) | (with_reducible refine Below.drew ?_) | (with_reducible refine Below.set ?_ (by first | (simp; done) | omega | (simp; omega))) | (with_reducible refine Below.thru ?_ (by assumption)) | (with_reducible refine Below.chg ?_ (by assumption) (by first | (simp; done) | omega | (simp; omega)))))⟩
  case round =>
    obtain ⟨rfl, hg, hbw⟩ := hrel
    obtain ⟨c1, f1⟩ := Below.blk hbw (b := p) (by first | (simp; done) | omega | (simp; omega))
    obtain ⟨c2, f2⟩ := Below.blk hbw (b := g) (by first | (simp; done) | omega | (simp; omega))
    have zw := hbw.size
    have zp : p < wr.heap.size := by omega
    have zg : g < wr.heap.size := by omega
    have e2' := (c1 2).trans e2
    have g0' := (c2 0).trans g0
    go_wp2_with fail
    refine wp_region_near (by kernel_rfl) (by kernel_rfl) ?_
    intro hs
    repeat (go_big_quiet_step ((go_at_call 101; exact Calls.near (by simp) (P.out _))))
    refine wpQuiet_nil ?_
    clear hs
    intro w3 hb3
    have hb4 := hbw.trans (hb3.mono hbw.size)
    go_wp2_with fail
    go_ret
    exact Ret.mk rfl hb4
set_option maxRecDepth 100000 in
set_option maxHeartbeats 1000000 in
theorem rgot_st (first : Int) (seq : Int) (dt : Bool) (hn : n = ofC first) (H : St W S w (cellA p (hV g n) :: cellA g [.int .i64 n] :: r)) : Calls Try.prog 56 #[.pointer (some ⟨p, 0, none⟩), .int .i64 seq, .bool dt] w (Some1 W S Value.bool r) := by
  have H0 : St W S w (cellA p (hW n n (.slice (some ⟨g, 0, none⟩) 1 1) 0) :: cellA g [.int .i64 n] :: r) := H
  obtain ⟨z, c, ff⟩ := H0.box 0 rfl
  obtain ⟨z2, c2, ff2⟩ := H0.box 1 rfl
  unfold hW at c
  have hbd := ofC_bd first
  have PF := fun W => rfar_any seq n W
  have PI := fun w' hb => hin_st seq (H0.thru (w' := w') hb)
  obtain ⟨i0, hi0, hz, hz1, hz2⟩ := info_parts int_info
  by_cases hon : 0 < farC seq n
  · have q : decide (0 < farC seq n) = true := decide_eq_true hon
    obtain ⟨d, hd⟩ : ∃ d, farC seq n = d := ⟨_, rfl⟩
    rw [hd] at PF q hon
    have hmb := ofC_bd seq
    have PO := fun W => rof_any seq W
    obtain ⟨m, hm⟩ : ∃ m, ofC seq = m := ⟨_, rfl⟩
    rw [hm] at hmb PO
    have PM := fun W => rmany_any n m W
    have PN := fun W => rof_any (m - 127) W
    obtain ⟨f7, hf7⟩ : ∃ f7, ofC (m - 127) = f7 := ⟨_, rfl⟩
    rw [hf7] at PN
    have PIG := fun (f1 : Int) (v : Value) (r' : List Asn) (w' : World) (H : St W S w' (cellA p (hW f1 m v 0) :: r')) => hin_st n H
    have hmc := manyC_bd n m
    by_cases h128 : 128 < manyC n m
    · obtain ⟨k, hk⟩ : ∃ k, manyC n m = k := ⟨_, rfl⟩
      rw [hk] at PM h128 hmc
      have q2 : decide (128 < k) = true := decide_eq_true h128
      clear PI hd hm hf7 hk hn H
      replace PF := Lib.hid PF; replace PO := Lib.hid PO; replace PM := Lib.hid PM; replace PN := Lib.hid PN; replace PIG := Lib.hid PIG; replace H0 := Lib.hid H0
      go_enter Try.func56, Try.ntmps56
      go_wp2_with fail
      refine Calls.mono (PF.out _) ?_
      rintro e w1 ⟨rfl, hb1⟩
      have z1 := Below.size hb1; try simp only [World.size_alloc, World.size_setCell, World.size_drew] at z1
      have H1 := H0.out.thru hb1
      obtain ⟨z1, c1, ff1⟩ := H1.box 0 rfl
      unfold hW at c1
      replace H1 := Lib.hid H1
      go_wp2_with fail
      refine Calls.mono (PO.out _) ?_
      rintro e w2 ⟨rfl, hb2⟩
      have z2 := Below.size hb2; try simp only [World.size_alloc, World.size_setCell, World.size_drew] at z2
      have H2 := H1.out.thru hb2
      obtain ⟨z3, c3, ff3⟩ := H2.box 0 rfl
      have H3 : St W S _ (cellA p (hW n m (.slice (some ⟨g, 0, none⟩) 1 1) 0) :: cellA g [.int .i64 n] :: r) := H2.set 0 rfl 1 (.int .i64 m) (by simp [hW])
      unfold hW at c3
      clear H0 H1 H2 c ff c1 ff1 c2 ff2
      replace H3 := Lib.hid H3
      go_wp2_with fail
      refine wp_region_near (by kernel_rfl) (by kernel_rfl) ?_
      intro hs
      repeat (go_big_quiet_step ((go_at_call 102; exact Calls.near (by simp) (PM.out _))))
      refine wpQuiet_nil ?_
      clear hs
      intro w3 hb3
      have H4 := H3.out.thru hb3
      obtain ⟨z4, c4, ff4⟩ := H4.box 0 rfl
      unfold hW at c4
      clear H3 c3 ff3
      replace H4 := Lib.hid H4
      go_wp2_with fail
      refine Calls.mono (PN.out _) ?_
      rintro e w4 ⟨rfl, hb4⟩
      have z4 := Below.size hb4; try simp only [World.size_alloc, World.size_setCell, World.size_drew] at z4
      have H5 := H4.out.thru hb4
      obtain ⟨z5, c5, ff5⟩ := H5.box 0 rfl
      have H6 : St W S _ (cellA p (hW f7 m (.slice (some ⟨g, 0, none⟩) 1 1) 0) :: cellA g [.int .i64 n] :: r) := H5.set 0 rfl 0 (.int .i64 f7) (by simp [hW])
      unfold hW at c5
      clear H4 H5
      replace H6 := Lib.hid H6
      go_wp2_with fail
      go_loopg [8, 9] 1 (fun g0 v8 v9 wr => ∃ (j : Nat) (L : List Int) (a : Option Addr) (c : Nat), j ≤ 1 ∧ Hid (g0 = 1 - j) ∧ v9 = .int .i64 j ∧ L.length ≤ j ∧ v8 = .slice a L.length c ∧ Hid (St W S wr (cellA p (hW f7 m (.slice (some ⟨g, 0, none⟩) 1 1) 0) :: rowA 1 (.slice a L.length c) L.length (i64s L) :: cellA g [.int .i64 n] :: r)))
      case atStart => exact ⟨0, [], none, 0, by omega, Lib.hid rfl, rfl, Nat.le_refl _, rfl, Lib.hid ((H6.out.row_nil (size := 1)).arrN [1, 0] rfl)⟩
      case round =>
        clear H6
        obtain ⟨j, L, a, c, hj, hg, rfl, hL, rfl, hst⟩ := hrel
        obtain ⟨z7, c7, ff7⟩ := hst.out.box 0 rfl
        obtain ⟨z8, c8, ff8⟩ := hst.out.box 2 rfl
        unfold hW at c7
        by_cases hlt : j < 1
        · obtain rfl : j = 0 := by omega
          have e8 := c8 0
          have P7 := PIG.out _ _ _ _ hst.out
          obtain ⟨i, hi⟩ : ∃ i, inH f7 m n = i := ⟨_, rfl⟩
          rw [hi] at P7
          clear hi c8
          replace P7 := Lib.hid P7
          cases i with
          | true =>
            go_wp2_with fail
            refine Calls.mono (P7.out) ?_
            rintro e w7 ⟨rfl, hb7⟩
            have z7 := Below.size hb7; try simp only [World.size_alloc, World.size_setCell, World.size_drew] at z7
            have H8 := hst.out.thru hb7
            obtain ⟨z9, c9, ff9⟩ := H8.box 0 rfl
            obtain ⟨z0, c0, ff0⟩ := H8.box 2 rfl
            have e0 := c0 0
            unfold hW at c9
            clear hst c0 P7
            replace H8 := Lib.hid H8
            go_wp2_with (at_builtin; (refine wpList_appS rfl (.tmp 73) (.tmp 81) _ rfl 3 i0 _ 1 8 Try.underlying111 hi0 hz hz1 hz2 rfl (by omega) 1 _ L.length _ rfl H8.out rfl 1 1 [.int .i64 n] rfl rfl (by simp [Value.oneCell']) (by omega) (by omega) ?_; intro v9 w9 H9; obtain ⟨a9, c9', rfl, _⟩ := St.slice (by omega) 0 H9 rfl; replace H9 := Lib.hid H9))
            go_roundg 0
            case measure => have := hg.out; omega
            case rel =>
              refine ⟨1, L ++ [n], a9, c9', by omega, Lib.hid rfl, by go_num, by rw [List.length_append]; simp only [List.length_cons, List.length_nil]; omega, by simp, ?_⟩
              have := H9.out.arrN [1, 0] rfl
              rw [List.length_append, show i64s (L ++ [n]) = i64s L ++ [.int .i64 n] by simp [i64s]]
              exact Lib.hid this
          | false =>
            go_wp2_with fail
            refine Calls.mono (P7.out) ?_
            rintro e w7 ⟨rfl, hb7⟩
            have z7 := Below.size hb7; try simp only [World.size_alloc, World.size_setCell, World.size_drew] at z7
            have H8 := hst.out.thru hb7
            clear hst P7
            replace H8 := Lib.hid H8
            go_wp2_with fail
            go_roundg 0
            case measure => have := hg.out; omega
            case rel => exact ⟨1, L, a, c, by omega, Lib.hid rfl, by go_num, by omega, rfl, H8⟩
        · obtain rfl : j = 1 := by omega
          have H7 : St W S _ (cellA p (hW f7 m (.slice a L.length c) 0) :: rowA 1 (.slice a L.length c) L.length (i64s L) :: cellA g [.int .i64 n] :: r) := hst.out.set 0 rfl 2 (.slice a L.length c) (by simp [hW])
          have E1 := H7.alloc [] 3
          have E2 := E1.row_empty (size := 1) 0 rfl
          simp only [World.size_setCell, World.size_alloc] at E2
          have hR := St.rd (by omega) 2 E2 rfl
          have hn0 : a = none → L.length = 0 := by
            intro e
            subst e
            have := (hst.out.row 1 rfl).2
            rcases this with ⟨_, h⟩ | ⟨_, _, _, h, _⟩
            · exact h
            · cases h
          obtain ⟨zx, cx, ffx⟩ := H7.box 0 rfl
          unfold hW at cx
          clear H7 E1 hst c8 ff8
          replace E2 := Lib.hid E2; replace hR := Lib.hid hR
          go_wp2_with (at_builtin; (refine wpList_appRd rfl (.tmp 88) (.tmp 92) _ rfl 3 i0 _ 1 8 Try.underlying111 hi0 hz hz1 hz2 rfl (by omega) 0 _ 0 [] rfl E2.out rfl a L.length c (i64s L) rfl (by rw [i64s_len, Nat.mul_one]) hR.out hn0 (i64s_one L) (by omega) (by omega) ?_; intro v1 w1' HA; simp only [Nat.zero_add, List.nil_append] at HA; obtain ⟨a1, c1, rfl, _⟩ := St.slice (by omega) 0 HA rfl; replace HA := Lib.hid HA))
          refine Calls.mono (PO.out _) ?_
          rintro e w11 ⟨rfl, hb11⟩
          have z11 := Below.size hb11; try simp only [World.size_alloc, World.size_setCell, World.size_drew] at z11
          have HB := HA.out.thru hb11
          obtain ⟨z12, c12, ff12⟩ := HB.box 1 rfl
          unfold hW at c12
          clear HA E2 hR
          replace HB := Lib.hid HB
          cases dt with
          | true =>
            go_wp2_with (at_builtin; (refine wpList_appS rfl (.tmp 93) (.tmp 96) _ rfl 3 i0 _ 1 8 Try.underlying111 hi0 hz hz1 hz2 rfl (by omega) 0 _ L.length _ rfl HB.out rfl 1 1 [.int .i64 m] rfl rfl (by simp [Value.oneCell']) (by omega) (by omega) ?_; intro v3 w3' HC; obtain ⟨a3, c3, rfl, _⟩ := St.slice (by omega) 0 HC rfl; obtain ⟨z13, c13, ff13⟩ := HC.box 1 rfl; have HD : St W S _ (cellA p (hW f7 m (.slice a3 (L.length + 1) c3) 0) :: _) := HC.set 1 rfl 2 (.slice a3 (L.length + 1) c3) (by simp [hW]); obtain ⟨z14, c14, ff14⟩ := HD.box 0 rfl; unfold hW at c13 c14; have HE := ((((HD.set 0 rfl 3 (.int .i64 1) (by simp [hW])).drop 0 rfl).drop 0 rfl).drop 0 rfl).drop 0 rfl; replace HE := Lib.hid HE; replace HD := Lib.hid HD; replace HC := Lib.hid HC))
            go_ret
            exact ⟨true, rfl, HE.out⟩
          | false =>
            go_wp2_with (at_builtin; (refine wpList_appS rfl (.tmp 93) (.tmp 96) _ rfl 3 i0 _ 1 8 Try.underlying111 hi0 hz hz1 hz2 rfl (by omega) 0 _ L.length _ rfl HB.out rfl 1 1 [.int .i64 m] rfl rfl (by simp [Value.oneCell']) (by omega) (by omega) ?_; intro v3 w3' HC; obtain ⟨a3, c3, rfl, _⟩ := St.slice (by omega) 0 HC rfl; obtain ⟨z13, c13, ff13⟩ := HC.box 1 rfl; have HD : St W S _ (cellA p (hW f7 m (.slice a3 (L.length + 1) c3) 0) :: _) := HC.set 1 rfl 2 (.slice a3 (L.length + 1) c3) (by simp [hW]); obtain ⟨z14, c14, ff14⟩ := HD.box 0 rfl; unfold hW at c13 c14; replace HD := Lib.hid HD; replace HC := Lib.hid HC))
            go_ret
            exact ⟨true, rfl, (((HD.out.drop 0 rfl).drop 0 rfl).drop 0 rfl).drop 0 rfl⟩
    · obtain ⟨k, hk⟩ : ∃ k, manyC n m = k := ⟨_, rfl⟩
      rw [hk] at PM h128 hmc
      have q2 : decide (128 < k) = false := decide_eq_false h128
      clear PI hd hm hf7 hk hn H
      replace PF := Lib.hid PF; replace PO := Lib.hid PO; replace PM := Lib.hid PM; replace PN := Lib.hid PN; replace PIG := Lib.hid PIG; replace H0 := Lib.hid H0
      go_enter Try.func56, Try.ntmps56
      go_wp2_with fail
      refine Calls.mono (PF.out _) ?_
      rintro e w1 ⟨rfl, hb1⟩
      have z1 := Below.size hb1; try simp only [World.size_alloc, World.size_setCell, World.size_drew] at z1
      have H1 := H0.out.thru hb1
      obtain ⟨z1, c1, ff1⟩ := H1.box 0 rfl
      unfold hW at c1
      replace H1 := Lib.hid H1
      go_wp2_with fail
      refine Calls.mono (PO.out _) ?_
      rintro e w2 ⟨rfl, hb2⟩
      have z2 := Below.size hb2; try simp only [World.size_alloc, World.size_setCell, World.size_drew] at z2
      have H2 := H1.out.thru hb2
      obtain ⟨z3, c3, ff3⟩ := H2.box 0 rfl
      have H3 : St W S _ (cellA p (hW n m (.slice (some ⟨g, 0, none⟩) 1 1) 0) :: cellA g [.int .i64 n] :: r) := H2.set 0 rfl 1 (.int .i64 m) (by simp [hW])
      unfold hW at c3
      clear H0 H1 H2 c ff c1 ff1 c2 ff2
      replace H3 := Lib.hid H3
      go_wp2_with fail
      refine wp_region_near (by kernel_rfl) (by kernel_rfl) ?_
      intro hs
      repeat (go_big_quiet_step ((go_at_call 102; exact Calls.near (by simp) (PM.out _))))
      refine wpQuiet_nil ?_
      clear hs
      intro w3 hb3
      have H4 := H3.out.thru hb3
      obtain ⟨z4, c4, ff4⟩ := H4.box 0 rfl
      unfold hW at c4
      clear H3 c3 ff3
      replace H4 := Lib.hid H4
      go_wp2_with fail
      have H6 := H4
      clear H4
      go_wp2_with fail
      go_loopg [8, 9] 1 (fun g0 v8 v9 wr => ∃ (j : Nat) (L : List Int) (a : Option Addr) (c : Nat), j ≤ 1 ∧ Hid (g0 = 1 - j) ∧ v9 = .int .i64 j ∧ L.length ≤ j ∧ v8 = .slice a L.length c ∧ Hid (St W S wr (cellA p (hW n m (.slice (some ⟨g, 0, none⟩) 1 1) 0) :: rowA 1 (.slice a L.length c) L.length (i64s L) :: cellA g [.int .i64 n] :: r)))
      case atStart => exact ⟨0, [], none, 0, by omega, Lib.hid rfl, rfl, Nat.le_refl _, rfl, Lib.hid ((H6.out.row_nil (size := 1)).arrN [1, 0] rfl)⟩
      case round =>
        clear H6
        obtain ⟨j, L, a, c, hj, hg, rfl, hL, rfl, hst⟩ := hrel
        obtain ⟨z7, c7, ff7⟩ := hst.out.box 0 rfl
        obtain ⟨z8, c8, ff8⟩ := hst.out.box 2 rfl
        unfold hW at c7
        by_cases hlt : j < 1
        · obtain rfl : j = 0 := by omega
          have e8 := c8 0
          have P7 := PIG.out _ _ _ _ hst.out
          obtain ⟨i, hi⟩ : ∃ i, inH n m n = i := ⟨_, rfl⟩
          rw [hi] at P7
          clear hi c8
          replace P7 := Lib.hid P7
          cases i with
          | true =>
            go_wp2_with fail
            refine Calls.mono (P7.out) ?_
            rintro e w7 ⟨rfl, hb7⟩
            have z7 := Below.size hb7; try simp only [World.size_alloc, World.size_setCell, World.size_drew] at z7
            have H8 := hst.out.thru hb7
            obtain ⟨z9, c9, ff9⟩ := H8.box 0 rfl
            obtain ⟨z0, c0, ff0⟩ := H8.box 2 rfl
            have e0 := c0 0
            unfold hW at c9
            clear hst c0 P7
            replace H8 := Lib.hid H8
            go_wp2_with (at_builtin; (refine wpList_appS rfl (.tmp 73) (.tmp 81) _ rfl 3 i0 _ 1 8 Try.underlying111 hi0 hz hz1 hz2 rfl (by omega) 1 _ L.length _ rfl H8.out rfl 1 1 [.int .i64 n] rfl rfl (by simp [Value.oneCell']) (by omega) (by omega) ?_; intro v9 w9 H9; obtain ⟨a9, c9', rfl, _⟩ := St.slice (by omega) 0 H9 rfl; replace H9 := Lib.hid H9))
            go_roundg 0
            case measure => have := hg.out; omega
            case rel =>
              refine ⟨1, L ++ [n], a9, c9', by omega, Lib.hid rfl, by go_num, by rw [List.length_append]; simp only [List.length_cons, List.length_nil]; omega, by simp, ?_⟩
              have := H9.out.arrN [1, 0] rfl
              rw [List.length_append, show i64s (L ++ [n]) = i64s L ++ [.int .i64 n] by simp [i64s]]
              exact Lib.hid this
          | false =>
            go_wp2_with fail
            refine Calls.mono (P7.out) ?_
            rintro e w7 ⟨rfl, hb7⟩
            have z7 := Below.size hb7; try simp only [World.size_alloc, World.size_setCell, World.size_drew] at z7
            have H8 := hst.out.thru hb7
            clear hst P7
            replace H8 := Lib.hid H8
            go_wp2_with fail
            go_roundg 0
            case measure => have := hg.out; omega
            case rel => exact ⟨1, L, a, c, by omega, Lib.hid rfl, by go_num, by omega, rfl, H8⟩
        · obtain rfl : j = 1 := by omega
          have H7 : St W S _ (cellA p (hW n m (.slice a L.length c) 0) :: rowA 1 (.slice a L.length c) L.length (i64s L) :: cellA g [.int .i64 n] :: r) := hst.out.set 0 rfl 2 (.slice a L.length c) (by simp [hW])
          have E1 := H7.alloc [] 3
          have E2 := E1.row_empty (size := 1) 0 rfl
          simp only [World.size_setCell, World.size_alloc] at E2
          have hR := St.rd (by omega) 2 E2 rfl
          have hn0 : a = none → L.length = 0 := by
            intro e
            subst e
            have := (hst.out.row 1 rfl).2
            rcases this with ⟨_, h⟩ | ⟨_, _, _, h, _⟩
            · exact h
            · cases h
          obtain ⟨zx, cx, ffx⟩ := H7.box 0 rfl
          unfold hW at cx
          clear H7 E1 hst c8 ff8
          replace E2 := Lib.hid E2; replace hR := Lib.hid hR
          go_wp2_with (at_builtin; (refine wpList_appRd rfl (.tmp 88) (.tmp 92) _ rfl 3 i0 _ 1 8 Try.underlying111 hi0 hz hz1 hz2 rfl (by omega) 0 _ 0 [] rfl E2.out rfl a L.length c (i64s L) rfl (by rw [i64s_len, Nat.mul_one]) hR.out hn0 (i64s_one L) (by omega) (by omega) ?_; intro v1 w1' HA; simp only [Nat.zero_add, List.nil_append] at HA; obtain ⟨a1, c1, rfl, _⟩ := St.slice (by omega) 0 HA rfl; replace HA := Lib.hid HA))
          refine Calls.mono (PO.out _) ?_
          rintro e w11 ⟨rfl, hb11⟩
          have z11 := Below.size hb11; try simp only [World.size_alloc, World.size_setCell, World.size_drew] at z11
          have HB := HA.out.thru hb11
          obtain ⟨z12, c12, ff12⟩ := HB.box 1 rfl
          unfold hW at c12
          clear HA E2 hR
          replace HB := Lib.hid HB
          cases dt with
          | true =>
            go_wp2_with (at_builtin; (refine wpList_appS rfl (.tmp 93) (.tmp 96) _ rfl 3 i0 _ 1 8 Try.underlying111 hi0 hz hz1 hz2 rfl (by omega) 0 _ L.length _ rfl HB.out rfl 1 1 [.int .i64 m] rfl rfl (by simp [Value.oneCell']) (by omega) (by omega) ?_; intro v3 w3' HC; obtain ⟨a3, c3, rfl, _⟩ := St.slice (by omega) 0 HC rfl; obtain ⟨z13, c13, ff13⟩ := HC.box 1 rfl; have HD : St W S _ (cellA p (hW n m (.slice a3 (L.length + 1) c3) 0) :: _) := HC.set 1 rfl 2 (.slice a3 (L.length + 1) c3) (by simp [hW]); obtain ⟨z14, c14, ff14⟩ := HD.box 0 rfl; unfold hW at c13 c14; have HE := ((((HD.set 0 rfl 3 (.int .i64 1) (by simp [hW])).drop 0 rfl).drop 0 rfl).drop 0 rfl).drop 0 rfl; replace HE := Lib.hid HE; replace HD := Lib.hid HD; replace HC := Lib.hid HC))
            go_ret
            exact ⟨true, rfl, HE.out⟩
          | false =>
            go_wp2_with (at_builtin; (refine wpList_appS rfl (.tmp 93) (.tmp 96) _ rfl 3 i0 _ 1 8 Try.underlying111 hi0 hz hz1 hz2 rfl (by omega) 0 _ L.length _ rfl HB.out rfl 1 1 [.int .i64 m] rfl rfl (by simp [Value.oneCell']) (by omega) (by omega) ?_; intro v3 w3' HC; obtain ⟨a3, c3, rfl, _⟩ := St.slice (by omega) 0 HC rfl; obtain ⟨z13, c13, ff13⟩ := HC.box 1 rfl; have HD : St W S _ (cellA p (hW n m (.slice a3 (L.length + 1) c3) 0) :: _) := HC.set 1 rfl 2 (.slice a3 (L.length + 1) c3) (by simp [hW]); obtain ⟨z14, c14, ff14⟩ := HD.box 0 rfl; unfold hW at c13 c14; replace HD := Lib.hid HD; replace HC := Lib.hid HC))
            go_ret
            exact ⟨true, rfl, (((HD.out.drop 0 rfl).drop 0 rfl).drop 0 rfl).drop 0 rfl⟩
  · have q : decide (0 < farC seq n) = false := decide_eq_false hon
    obtain ⟨d, hd⟩ : ∃ d, farC seq n = d := ⟨_, rfl⟩
    obtain ⟨i, hi⟩ : ∃ i, inH n n seq = i := ⟨_, rfl⟩
    simp only [hi] at PI
    have PC : i = true → ∀ w', Below w.heap.size w w' → Calls Try.prog 100 #[.pointer (some ⟨p, 0, none⟩), .int .i64 seq] w' (Ret w' (.bool true)) := fun h w' hb => hcame_st seq (by
      rw [← hi] at h
      unfold inH manyH manyC at h
      simp only [Bool.and_eq_true, decide_eq_true_eq] at h
      rw [hn] at h ⊢
      have e := (farC_of first seq).1
      rw [e] at h
      unfold farC at h
      unfold ofC
      split at h <;> omega) (H0.thru hb)
    rw [hd] at PF q
    clear hd hi hon hn H
    cases i with
    | true =>
      replace PC := PC rfl
      replace PF := Lib.hid PF; replace PI := Lib.hid PI; replace PC := Lib.hid PC; replace H0 := Lib.hid H0
      go_enter Try.func56, Try.ntmps56
      go_wp2_with fail
      refine Calls.mono (PF.out _) ?_
      rintro e w1 ⟨rfl, hb1⟩
      have z1 := Below.size hb1; try simp only [World.size_alloc, World.size_setCell, World.size_drew] at z1
      go_wp2_with fail
      refine Calls.mono (PI.out _ hb1) ?_
      rintro e w2 ⟨rfl, hb2⟩
      have z2 := Below.size hb2; try simp only [World.size_alloc, World.size_setCell, World.size_drew] at z2
      go_wp2_with fail
      refine Calls.mono (PC.out _ (hb1.trans (hb2.mono hb1.size))) ?_
      rintro e w3 ⟨rfl, hb3⟩
      have z3 := Below.size hb3; try simp only [World.size_alloc, World.size_setCell, World.size_drew] at z3
      have H4 := ((H0.out.thru hb1).thru hb2).thru hb3
      go_wp2_with fail
      go_ret
      exact ⟨false, rfl, (H4.drop 0 rfl).drop 0 rfl⟩
    | false =>
      clear PC
      replace PF := Lib.hid PF; replace PI := Lib.hid PI; replace H0 := Lib.hid H0
      go_enter Try.func56, Try.ntmps56
      go_wp2_with fail
      refine Calls.mono (PF.out _) ?_
      rintro e w1 ⟨rfl, hb1⟩
      have z1 := Below.size hb1; try simp only [World.size_alloc, World.size_setCell, World.size_drew] at z1
      go_wp2_with fail
      refine Calls.mono (PI.out _ hb1) ?_
      rintro e w2 ⟨rfl, hb2⟩
      have z2 := Below.size hb2; try simp only [World.size_alloc, World.size_setCell, World.size_drew] at z2
      have H4 := ((H0.out.thru hb1).thru hb2)
      go_wp2_with fail
      go_ret
      exact ⟨false, rfl, (H4.drop 0 rfl).drop 0 rfl⟩
end
end Go.Proofs.Ytpajedpkdfacoaa.CcRef
