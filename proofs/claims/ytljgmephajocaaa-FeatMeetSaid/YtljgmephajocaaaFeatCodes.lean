/- The walk of the statement FeatCodes. -/
import Derived.Test.YtljgmephajocaaaFeatRef3
import Derived.Test.YtljgmephajocaaaOptsLaw
namespace Go.Proofs.Ytljgmephajocaaa.Feat
set_option linter.unusedSimpArgs false
set_option linter.unusedVariables false
open Go Go.RowKit Go.Shelf Go.Proofs.Ytljgmephajocaaa
open Go.Proofs.Ytljgmephajocaaa.Opts (u8 u8_nat arr_ext str_emp eqO eqO_iff)
attribute [local irreducible] Calls

set_option maxRecDepth 100000 in
theorem ints_any (l : List Int) (n : Nat) (hl : l.length = n) (hn : n ≤ 1000000) (a : Option Addr) (cap : Nat) (a' : Option Addr) (cap' : Nat) (w : World) (h : Rd w a (i64s l)) (g : Rd w a' (i64s l)) :
    Calls Try.prog 108 #[.slice a n cap, .slice a' n cap'] w (Ret w (.bool true)) := by
  replace h := Lib.hid h; replace g := Lib.hid g; replace hl := Lib.hid hl
  go_enter Try.func108, Try.ntmps108
  go_wp2_with fail
  go_loopg [5] n (fun g i wr => ∃ k : Nat, k ≤ n ∧ g = n - k ∧ i = .int .i64 k ∧ Below w.heap.size w wr)
  case atStart => exact ⟨0, by omega, by omega, rfl, (by repeat (first | with_reducible exact Below.refl _ _ | (with_reducible refine Below.al ?_) | (with_reducible refine Below.drew ?_) | (with_reducible refine Below.set ?_ (by first | (simp; done) | omega | (simp; omega))) | (with_reducible refine Below.thru ?_ (by assumption)) | (with_reducible refine Below.chg ?_ (by assumption) (by first | (simp; done) | omega | (simp; omega)))))⟩
  case round =>
    obtain ⟨k, hk, hg, rfl, hbw⟩ := hrel
    by_cases hlt : k < n
    · have hkl : k < l.length := by have := hl.out; omega
      obtain ⟨b, off, rfl, hb, e0⟩ := ints_at (h.out.below hbw) hkl
      obtain ⟨b', off', rfl, hb', f0⟩ := ints_at (g.out.below hbw) hkl
      generalize l[k] = d at *
      go_wp2_with fail
      refine wp_region_near (by kernel_rfl) (by kernel_rfl) ?_
      intro hs
      repeat (go_big_quiet_step (fail))
      refine wpQuiet_nil ?_
      clear hs
      intro w2 hb2
      go_wp2_with fail
      go_roundg (n - (k + 1))
      case measure => omega
      case rel => exact ⟨k + 1, by omega, rfl, by go_num, (by repeat (first | with_reducible exact Below.refl _ _ | (with_reducible refine Below.al ?_) | (with_reducible refine Below.drew ?_) | (with_reducible refine Below.set ?_ (by first | (simp; done) | omega | (simp; omega))) | (with_reducible refine Below.thru ?_ (by assumption)) | (with_reducible refine Below.chg ?_ (by assumption) (by first | (simp; done) | omega | (simp; omega)))))⟩
    · go_wp2_with fail
      go_ret
      exact Ret.mk rfl (by repeat (first | with_reducible exact Below.refl _ _ | (with_reducible refine Below.al ?_) | (with_reducible refine Below.drew ?_) | (with_reducible refine Below.set ?_ (by first | (simp; done) | omega | (simp; omega))) | (with_reducible refine Below.thru ?_ (by assumption)) | (with_reducible refine Below.chg ?_ (by assumption) (by first | (simp; done) | omega | (simp; omega)))))
theorem same_any (num : Int) (l : List Int) (hn : l.length ≤ 1000000) (a b : Option Addr) (ca cb : Nat) (w : World) (ha : Rd w a (i64s l)) (hb : Rd w b (i64s l)) :
    Calls Try.prog 56 #[.agg #[.int .i64 num, .slice a l.length ca], .agg #[.int .i64 num, .slice b l.length cb]] w (Ret w (.bool true)) := by
  have H := ((St.zero w).alloc [.int .i64 num, .slice a l.length ca] 88).alloc [.int .i64 num, .slice b l.length cb] 88
  have P := ints_any l l.length rfl hn a ca b cb _ (ha.below H.below) (hb.below H.below)
  have q : (num == num) = true := by simp
  clear ha hb
  replace H := Lib.hid H
  go_enter Try.func56, Try.ntmps56
  go_wp2_with fail
  refine Calls.mono P ?_
  rintro e w1 ⟨rfl, hb1⟩
  have H1 := H.out.thru hb1
  clear P H
  replace H1 := Lib.hid H1
  go_wp2_with fail
  go_ret
  exact H1.out.ret rfl
theorem u8_back {n : Int} (h0 : 0 ≤ n) (h : n ≤ 255) : ((u8 n).toNat : Int) = n := u8_nat h0 h
theorem likes_back {l : List Int} (h : ∀ x ∈ l, 0 ≤ x ∧ x ≤ 255) : (l.map u8).map (fun b => (b.toNat : Int)) = l := by
  induction l with
  | nil => rfl
  | cons x l ih =>
    obtain ⟨h0, h1⟩ := h x (List.mem_cons_self ..)
    simp only [List.map_cons]
    rw [u8_back h0 h1, ih (fun y hy => h y (List.mem_cons_of_mem _ hy))]
theorem put_back {kind num : Int} {l : List Int} (h : putE kind num l = 0) : kindB kind = true ∧ numL (bytesF num l) = num ∧ likesL (bytesF num l) = l ∧ checkF num l = 0 := by
  unfold putE at h
  split at h
  · rename_i hk
    obtain ⟨k1, k2, _, _, k5⟩ := checkF_ok h
    exact ⟨hk, u8_back (by omega) (by omega), likes_back k5, h⟩
  · cases h
theorem get_put {kind num : Int} {l : List Int} (h : putE kind num l = 0) : getE kind (bytesF num l) = 0 ∧ getN kind (bytesF num l) = num ∧ getL kind (bytesF num l) = l := by
  obtain ⟨h1, h2, h3, h4⟩ := put_back h
  have he : getE kind (bytesF num l) = 0 := by
    unfold getE
    rw [if_pos h1, if_neg (by simp [bytesF]), h2, h3, h4]
  unfold getN getL
  rw [if_pos he, if_pos he]
  exact ⟨he, h2, h3⟩
theorem putO_size (kind num : Int) (l : List Int) : (putO kind num l).2.size ≤ l.length + 1 := by
  unfold putO
  split
  · simp only [ByteArray.size, bytesF]; simp
  · simp [ByteArray.size]
theorem feat_in {w : World} {x : Array Value} (h : Fits w (.cons 1 (.int .i64) (.cons 1 (.slice 1 (.int .i64)) .nil)) x.toList) : ∃ (num : Int) (l : List Int) (a : Option Addr) (cap : Nat), x = #[.int .i64 num, .slice a l.length cap] ∧ l.length ≤ maxLen ∧ Rd w a (i64s l) := by
  obtain ⟨_, _, e, f0, r0⟩ := fits_cons1 h
  obtain ⟨v1, _, rfl, f1, r1⟩ := fits_cons1 r0
  obtain ⟨num, rfl, _⟩ := fits_int f0
  obtain rfl : _ = [] := r1
  obtain ⟨a, n, cap, rfl⟩ : ∃ a n cap, v1 = .slice a n cap := by
    have f2 := f1
    rcases f2 with h | ⟨x, l, c, h, _⟩
    · simp at h; exact ⟨_, _, _, h⟩
    · simp at h; exact ⟨_, _, _, h⟩
  obtain ⟨hn, _, l, hl, _, hR⟩ := ints_in f1
  subst hl
  exact ⟨num, l, a, cap, by apply Array.toList_inj.1; rw [e], hn, hR⟩
theorem opt_in {w : World} {x : Array Value} (h : Fits w (.cons 1 (.int .i64) (.cons 1 .str .nil)) x.toList) : ∃ (k : Int) (s : ByteArray), x = #[.int .i64 k, .string s] ∧ s.size ≤ maxLen := by
  obtain ⟨_, _, e, f0, r0⟩ := fits_cons1 h
  obtain ⟨_, _, rfl, f1, r1⟩ := fits_cons1 r0
  obtain ⟨k, rfl, _⟩ := fits_int f0
  obtain ⟨s, rfl, hs⟩ := fits_str f1
  obtain rfl : _ = [] := r1
  exact ⟨k, s, by apply Array.toList_inj.1; rw [e], hs⟩

set_option maxRecDepth 100000 in
set_option maxHeartbeats 4000000 in
theorem codes_walk (kind : Int) (w0 : (Lit.int .i64 kind).wf = true) (x1 : Array Value) (x2 : Array Value) (a : Option Addr) (m cb : Nat) (w : World) (h1 : Fits w (.cons 1 (.int .i64) (.cons 1 (.slice 1 (.int .i64)) .nil)) x1.toList) (h2 : Fits w (.cons 1 (.int .i64) (.cons 1 .str .nil)) x2.toList) (h3 : Fits w (.slice 1 (.int .i64)) [.slice a m cb]) :
    Calls Try.prog 9 #[.int .i64 kind, .agg x1, .agg x2, .slice a m cb] w (Ret w (.bool true)) := by
  obtain ⟨num, l, fa, fcp, rfl, hln, hL⟩ := feat_in h1
  obtain ⟨ok, os, rfl, hos⟩ := opt_in h2
  obtain ⟨hm, _, c, hc, _, hC⟩ := ints_in h3
  subst hc
  unfold maxLen at hln hos hm
  clear h1 h2 h3 w0
  have H0 := ((St.zero w).alloc [.int .i64 num, .slice fa l.length fcp] 88).alloc [.int .i64 ok, .string os] 73
  simp only [World.size_alloc] at H0
  replace H0 := Lib.hid H0; replace hL := Lib.hid hL; replace hC := Lib.hid hC
  go_enter Try.func9, Try.ntmps9
  go_wp2_with fail
  refine Calls.mono (works_law _) ?_
  rintro e w1 ⟨rfl, hb1⟩
  have H1 := H0.out.thru hb1
  clear H0
  obtain ⟨z1, c1, f1⟩ := H1.box 0 rfl
  obtain ⟨z2, c2, f2⟩ := H1.box 1 rfl
  by_cases g1 : 60 < l.length
  · have q1 : decide ((60 : Int) < l.length) = true := decide_eq_true (by omega)
    replace H1 := Lib.hid H1
    go_wp2_with fail
    go_ret
    exact H1.out.ret rfl
  · have q1 : decide ((60 : Int) < l.length) = false := decide_eq_false (by omega)
    by_cases g2 : 300 < os.size
    · have q2 : decide ((300 : Int) < os.size) = true := decide_eq_true (by omega)
      replace H1 := Lib.hid H1
      go_wp2_with fail
      go_ret
      exact H1.out.ret rfl
    · have q2 : decide ((300 : Int) < os.size) = false := decide_eq_false (by omega)
      by_cases g3 : 60 < c.length
      · have q3 : decide ((60 : Int) < c.length) = true := decide_eq_true (by omega)
        replace H1 := Lib.hid H1
        go_wp2_with fail
        go_ret
        exact H1.out.ret rfl
      · have q3 : decide ((60 : Int) < c.length) = false := decide_eq_false (by omega)
        have P1 := fun W hW => put_any kind num l l.length rfl (by omega) fa fcp W (hL.out.below hW)
        have P2 := fun W hW => rput_any kind num l l.length rfl (by omega) fa fcp W (hL.out.below hW)
        have P3 := fun W => get_any ok os (by omega) W
        have P4 := fun W => rget_any ok os (by omega) W
        have P5 := fun W hW => meet_any l c l.length c.length rfl rfl (by omega) (by omega) fa a fcp cb W (hL.out.below hW) (hC.out.below hW)
        have P6 := fun W hW => rmeet_any l c l.length c.length rfl rfl (by omega) (by omega) fa a fcp cb W (hL.out.below hW) (hC.out.below hW)
        have P7 := fun W => get_any (putO kind num l).1 (putO kind num l).2 (by have := putO_size kind num l; omega) W
        have hgl := getL_len ok os.data.toList
        have hosl : os.data.toList.length = os.size := by simp
        have hback : putE kind num l = 0 → getE (putO kind num l).1 (putO kind num l).2.data.toList = 0 ∧ getN (putO kind num l).1 (putO kind num l).2.data.toList = num ∧ getL (putO kind num l).1 (putO kind num l).2.data.toList = l := fun h => by
          unfold putO
          rw [if_pos h]
          exact get_put h
        have hlb := getL_len (putO kind num l).1 (putO kind num l).2.data.toList
        have hos2 : (putO kind num l).2.data.toList.length = (putO kind num l).2.size := by simp
        have hos3 := putO_size kind num l
        unfold FeatS at P3 P4 P7
        generalize getN (putO kind num l).1 (putO kind num l).2.data.toList = bN at *
        generalize getL (putO kind num l).1 (putO kind num l).2.data.toList = bL at *
        generalize getE (putO kind num l).1 (putO kind num l).2.data.toList = bE at *
        have hbl : bL.length ≤ 1000 := by omega
        clear hlb hos2 hos3
        generalize getN ok os.data.toList = oN at *
        generalize getL ok os.data.toList = oL at *
        generalize getE ok os.data.toList = oE at *
        have hol : oL.length ≤ 1000 := by omega
        clear hgl hosl
        generalize putO kind num l = po at *
        generalize putE kind num l = pe at *
        generalize meetV l c = mv at *
        obtain ⟨pk, pv⟩ := po
        simp only at *
        have P1' := P1 w1 H1.below
        clear P1
        replace H1 := Lib.hid H1; replace P2 := Lib.hid P2; replace P3 := Lib.hid P3; replace P4 := Lib.hid P4; replace P5 := Lib.hid P5; replace P6 := Lib.hid P6; replace P7 := Lib.hid P7; replace hback := Lib.hid hback
        go_wp2_with fail
        refine Calls.mono P1' ?_
        rintro e w2 ⟨rfl, hb2⟩
        have H2 := (H1.out.thru hb2).alloc [.int .i64 pk, .string pv] 73
        obtain ⟨z1, c1, f1⟩ := H2.box 2 rfl
        have P2' := P2.out _ H2.below
        clear P1' P2 H1
        replace H2 := Lib.hid H2
        go_wp2_with fail
        refine Calls.mono P2' ?_
        rintro e w3 ⟨rfl, hb3⟩
        have H3 := (H2.out.thru hb3).alloc [.int .i64 pk, .string pv] 73
        obtain ⟨z1, c1, f1⟩ := H3.box 2 rfl
        clear P2' H2
        replace H3 := Lib.hid H3
        go_wp2_with fail
        refine Calls.mono (P3.out _) ?_
        rintro e w4 ⟨v4, rfl, K4⟩
        have H4 := H3.out.add K4
        obtain ⟨a4, c4', rfl, _⟩ := St.slice (by omega) 0 H4 rfl
        have H5 := H4.alloc [.int .i64 oN, .slice a4 oL.length c4'] 88
        obtain ⟨z1, c1, f1⟩ := H5.box 4 rfl
        clear P3 H3 H4 K4
        replace H5 := Lib.hid H5
        go_wp2_with fail
        refine Calls.mono (P4.out _) ?_
        rintro e w5 ⟨v5, rfl, K5⟩
        have H6 := H5.out.add K5
        obtain ⟨a5, c5', rfl, _⟩ := St.slice (by omega) 0 H6 rfl
        have H7 := H6.alloc [.int .i64 oN, .slice a5 oL.length c5'] 88
        obtain ⟨z1, c1, f1⟩ := H7.box 7 rfl
        have P5' := P5.out _ H7.below
        clear P4 H5 H6 K5 P5
        replace H7 := Lib.hid H7
        go_wp2_with fail
        refine Calls.mono P5' ?_
        rintro e w6 ⟨rfl, hb6⟩
        have H8 := H7.out.thru hb6
        obtain ⟨z1, c1, f1⟩ := H8.box 7 rfl
        have P6' := P6.out _ H8.below
        clear P5' P6 H7
        replace H8 := Lib.hid H8
        go_wp2_with fail
        refine Calls.mono P6' ?_
        rintro e w7 ⟨rfl, hb7⟩
        have H9 := H8.out.thru hb7
        obtain ⟨z1, c1, f1⟩ := H9.box 5 rfl
        clear P6' H8
        replace H9 := Lib.hid H9
        go_wp2_with fail
        refine Calls.mono (P7.out _) ?_
        rintro e w8 ⟨v8, rfl, K8⟩
        have H10 := H9.out.add K8
        obtain ⟨a8, c8', rfl, _⟩ := St.slice (by omega) 0 H10 rfl
        have H11 := H10.alloc [.int .i64 bN, .slice a8 bL.length c8'] 88
        clear P7 H9 H10 K8
        obtain ⟨zy, cy, fy⟩ := H11.box 6 rfl
        obtain ⟨zx, cx, fx⟩ := H11.box 7 rfl
        obtain ⟨za, ca', fa'⟩ := H11.box 4 rfl
        obtain ⟨zb, cb', fb'⟩ := H11.box 2 rfl
        have P8 := same_any oN oL (by omega) a4 a5 c4' c5' _ (St.rd (by omega) 5 H11 rfl) (St.rd (by omega) 3 H11 rfl)
        have r1 : eqO pk pv pk pv = true := (eqO_iff (pk, pv) (pk, pv)).2 rfl
        have r2 : (pe == pe) = true := by simp
        have r3 : (oE == oE) = true := by simp
        have r4 : (mv.1 == mv.1) = true := by simp
        have r5 : (mv.2 == mv.2) = true := by simp
        by_cases hp : pe = 0
        · subst hp
          obtain ⟨rfl, rfl, rfl⟩ := hback.out rfl
          clear hback
          replace H11 := Lib.hid H11
          go_wp2_with fail
          refine Calls.mono P8 ?_
          rintro e w9 ⟨rfl, hb9⟩
          have H12 := H11.out.thru hb9
          obtain ⟨zk, ck, fk⟩ := H12.box 0 rfl
          obtain ⟨zf, cf, ff⟩ := H12.box 9 rfl
          have P9 := same_any bN bL (by omega) a8 fa c8' fcp _ (St.rd (by omega) 1 H12 rfl) (hL.out.below H12.below)
          clear P8 H11
          replace H12 := Lib.hid H12
          go_wp2_with fail
          refine Calls.mono P9 ?_
          rintro e w10 ⟨rfl, hb10⟩
          have H13 := H12.out.thru hb10
          clear P9 H12
          replace H13 := Lib.hid H13
          go_wp2_with fail
          go_ret
          exact H13.out.ret rfl
        · have q9 : (pe != 0) = true := by simp [hp]
          clear hback
          replace H11 := Lib.hid H11; replace hp := Lib.hid hp
          go_wp2_with fail
          refine Calls.mono P8 ?_
          rintro e w9 ⟨rfl, hb9⟩
          have H12 := H11.out.thru hb9
          clear P8 H11
          replace H12 := Lib.hid H12
          go_wp2_with fail
          go_ret
          exact H12.out.ret rfl
end Go.Proofs.Ytljgmephajocaaa.Feat
