/- The walk of the statement FeatBoth. -/
import Derived.Test.YtljgmephajocaaaFeatWorks
namespace Go.Proofs.Ytljgmephajocaaa.Feat
set_option linter.unusedSimpArgs false
set_option linter.unusedVariables false
open Go Go.RowKit Go.Shelf Go.Proofs.Ytljgmephajocaaa
attribute [local irreducible] Calls

theorem meet_some (s c : List Int) : (meetV s c).2 = s.any (fun n => c.any (fun y => n == y)) := by
  unfold meetV
  cases h : s.find? (fun n => c.any (fun y => n == y)) with
  | none =>
    have := List.find?_eq_none.1 h
    symm
    rw [List.any_eq_false]
    exact this
  | some x =>
    symm
    rw [List.any_eq_true]
    exact ⟨x, List.mem_of_find?_eq_some h, by have := List.find?_some h; simpa using this⟩
theorem meet_comm (s c : List Int) : (meetV s c).2 = (meetV c s).2 := by
  rw [meet_some, meet_some, Bool.eq_iff_iff]
  simp only [List.any_eq_true, beq_iff_eq]
  constructor
  · rintro ⟨x, hx, y, hy, rfl⟩; exact ⟨_, hy, _, hx, rfl⟩
  · rintro ⟨x, hx, y, hy, rfl⟩; exact ⟨_, hy, _, hx, rfl⟩
theorem meet_no {s c : List Int} (h : (meetV s c).2 = false) : meetV s c = (0, false) := by
  unfold meetV at *
  cases hf : s.find? (fun n => c.any (fun y => n == y)) with
  | none => rfl
  | some x => rw [hf] at h; cases h
theorem any_step {c : List Int} {x : Int} {k : Nat} (hk : k < c.length) : (c.take (k + 1)).any (fun y => x == y) = ((c.take k).any (fun y => x == y) || (x == c[k])) := by
  rw [List.take_succ_eq_append_getElem hk, List.any_append]
  simp
set_option maxRecDepth 100000 in
set_option maxHeartbeats 2000000 in
theorem both_walk (a : Option Addr) (n ca : Nat) (b : Option Addr) (m cb : Nat) (w : World) (h0 : Fits w (.slice 1 (.int .i64)) [.slice a n ca]) (h1 : Fits w (.slice 1 (.int .i64)) [.slice b m cb]) :
    Calls Try.prog 10 #[.slice a n ca, .slice b m cb] w (Ret w (.bool true)) := by
  obtain ⟨hn, hna, s, hs, _, hS⟩ := ints_in h0
  obtain ⟨hm, hmb, c, hc, _, hC⟩ := ints_in h1
  obtain ⟨i0, hi, hz, hz1, hz2⟩ := info_parts int_info
  unfold maxLen at hn hm
  clear h0 h1
  replace hs := Lib.hid hs; replace hc := Lib.hid hc; replace hS := Lib.hid hS; replace hC := Lib.hid hC; replace hna := Lib.hid hna; replace hmb := Lib.hid hmb
  go_enter Try.func10, Try.ntmps10
  go_wp2_with fail
  refine Calls.mono (works_law _) ?_
  rintro e w1 ⟨rfl, hb1⟩
  have z1 := Below.size hb1; try simp only [World.size_alloc, World.size_setCell, World.size_drew] at z1
  by_cases h200 : 200 < n
  · have q : decide ((200 : Int) < n) = true := decide_eq_true (by omega)
    go_wp2_with fail
    go_ret
    exact Ret.mk rfl (by repeat (first | with_reducible exact Below.refl _ _ | (with_reducible refine Below.al ?_) | (with_reducible refine Below.drew ?_) | (with_reducible refine Below.set ?_ (by first | (simp; done) | omega | (simp; omega))) | (with_reducible refine Below.thru ?_ (by assumption)) | (with_reducible refine Below.chg ?_ (by assumption) (by first | (simp; done) | omega | (simp; omega)))))
  · have q : decide ((200 : Int) < n) = false := decide_eq_false (by omega)
    by_cases h200' : 200 < m
    · have q' : decide ((200 : Int) < m) = true := decide_eq_true (by omega)
      go_wp2_with fail
      go_ret
      exact Ret.mk rfl (by repeat (first | with_reducible exact Below.refl _ _ | (with_reducible refine Below.al ?_) | (with_reducible refine Below.drew ?_) | (with_reducible refine Below.set ?_ (by first | (simp; done) | omega | (simp; omega))) | (with_reducible refine Below.thru ?_ (by assumption)) | (with_reducible refine Below.chg ?_ (by assumption) (by first | (simp; done) | omega | (simp; omega)))))
    · have q' : decide ((200 : Int) < m) = false := decide_eq_false (by omega)
      have E1 := (((St.zero w).thru hb1).alloc [] 3).row_empty (size := 1) 0 rfl
      replace E1 := Lib.hid E1
      go_wp2_with (at_builtin; first
        | (refine wpList_appRd rfl (.tmp 24) (.tmp 25) _ rfl 3 i0 _ 1 8 Try.underlying46 hi hz hz1 hz2 rfl (by omega) 0 _ 0 [] rfl E1.out rfl a n ca (i64s s) rfl (by rw [i64s_len, hs.out]; omega) (hS.out.below (E1.out.below)) hna.out (i64s_one s) (by omega) (by omega) ?_; intro wv5 w5 HA; (try simp only [Nat.zero_add, List.nil_append] at HA); obtain ⟨a5, c5, rfl, _⟩ := St.slice (by omega) 0 HA rfl; have E2 := (HA.alloc [] 3).row_empty (size := 1) 0 rfl; replace HA := Lib.hid HA; replace E2 := Lib.hid E2)
        | (refine wpList_appRd rfl (.tmp 27) (.tmp 28) _ rfl 3 i0 _ 1 8 Try.underlying46 hi hz hz1 hz2 rfl (by omega) 0 _ 0 [] rfl E2.out rfl b m cb (i64s c) rfl (by rw [i64s_len, hc.out]; omega) (hC.out.below (E2.out.below)) hmb.out (i64s_one c) (by omega) (by omega) ?_; intro wv6 w6 HB; (try simp only [Nat.zero_add, List.nil_append] at HB); obtain ⟨a6, c6, rfl, _⟩ := St.slice (by omega) 0 HB rfl; replace HB := Lib.hid HB))
      have P1 := meet_any s c n m hs.out hc.out (by omega) (by omega) a5 a6 c5 c6 w6 (St.rd (by omega) 1 HB.out rfl) (St.rd (by omega) 0 HB.out rfl)
      have P2 := fun w7 (hb7 : Below w6.heap.size w6 w7) => meet_any c s m n hc.out hs.out (by omega) (by omega) a6 a5 c6 c5 w7 ((St.rd (by omega) 0 HB.out rfl).below hb7) ((St.rd (by omega) 1 HB.out rfl).below hb7)
      have hbw6 := HB.out.below
      have hcm := meet_comm s c
      have hhit := fun (j : Nat) (hj : j < s.length) h hno => meet_hit (s := s) (c := c) (j := j) hj h hno
      have hnone := fun h => meet_none (s := s) (c := c) h
      have hno0 := meet_no (s := s) (c := c)
      obtain ⟨V, hV⟩ : ∃ V, meetV s c = V := ⟨_, rfl⟩
      obtain ⟨V2, hV2⟩ : ∃ V, meetV c s = V := ⟨_, rfl⟩
      rw [hV] at P1 hcm hhit hnone hno0
      rw [hV2] at hcm
      simp only [hV2] at P2
      clear hV hV2 E1 E2 HA HB
      obtain ⟨vn, vb⟩ := V
      obtain ⟨vn2, vb2⟩ := V2
      simp only at hcm P1 P2 hhit hnone hno0
      subst hcm
      have qv : (vb != vb) = false := by simp
      replace P2 := Lib.hid P2; replace hhit := Lib.hid hhit; replace hnone := Lib.hid hnone; replace hno0 := Lib.hid hno0
      go_wp2_with fail
      refine Calls.mono P1 ?_
      rintro e w7 ⟨rfl, hb7⟩
      have hbw7 := hbw6.trans (hb7.mono hbw6.size)
      have P3 := P2.out w7 hb7
      clear P1 P2 hb7 hbw6
      go_wp2_with fail
      refine Calls.mono P3 ?_
      rintro e w8 ⟨rfl, hb8⟩
      have hbw8 := hbw7.trans (hb8.mono hbw7.size)
      clear P3 hbw7 hb8 hb1 z1
      go_wp2_with fail
      go_loopg [11, 12, 13] (n + 1) (fun g mv i _ wr => ∃ (j : Nat) (met : Bool), j ≤ n ∧ g = n + 1 - j ∧ i = .int .i64 j ∧ mv = .bool met ∧ Hid (if met then vb = true else ∀ k (hk : k < s.length), k < j → c.any (fun y => s[k] == y) = false) ∧ Below w.heap.size w wr)
      case atStart => exact ⟨0, false, by omega, by omega, rfl, rfl, Lib.hid (by simp), hbw8⟩
      case round =>
        obtain ⟨j, met, hj, hg, rfl, rfl, hinv, hbw⟩ := hrel
        clear hbw8
        by_cases hlt : j < n ∧ met = false
        · obtain ⟨hjn, rfl⟩ := hlt
          have hjs : j < s.length := by have := hs.out; omega
          obtain ⟨b1, o1, rfl, hb1, e0⟩ := ints_at (hS.out.below hbw) hjs
          have hno := hinv.out
          simp only [Bool.false_eq_true, if_false] at hno
          clear hinv
          replace hno := Lib.hid hno
          obtain ⟨wo, hwo⟩ : ∃ wo : World, wo = wr := ⟨_, rfl⟩
          subst hwo
          go_wp2_with fail
          go_loopg [11, 13] m (fun g mv k ws => ∃ q : Nat, q ≤ m ∧ g = m - q ∧ k = .int .i64 q ∧ mv = .bool ((c.take q).any (fun y => s[j] == y)) ∧ Below wo.heap.size wo ws)
          case atStart => exact ⟨0, by omega, by omega, rfl, rfl, (by repeat (first | with_reducible exact Below.refl _ _ | (with_reducible refine Below.al ?_) | (with_reducible refine Below.drew ?_) | (with_reducible refine Below.set ?_ (by first | (simp; done) | omega | (simp; omega))) | (with_reducible refine Below.thru ?_ (by assumption)) | (with_reducible refine Below.chg ?_ (by assumption) (by first | (simp; done) | omega | (simp; omega)))))⟩
          case round =>
            obtain ⟨q, hq, hgq, rfl, rfl, hbs⟩ := hrel
            have hbws := hbw.trans (hbs.mono hbw.size)
            by_cases hqm : q < m
            · have hqc : q < c.length := by have := hc.out; omega
              obtain ⟨b2, o2, rfl, hb2, e1⟩ := ints_at (hC.out.below hbws) hqc
              have e2 := e0
              rw [← hbs.cell (p := ⟨b1, o1 + j, none⟩) hb1] at e2
              have hb1s : b1 < wr.heap.size := Nat.lt_of_lt_of_le hb1 hbs.size
              have hst := any_step (x := s[j]) hqc
              have hsy : (c[q] == s[j]) = (s[j] == c[q]) := Bool.beq_comm
              cases hbb : (c.take q).any (fun y => s[j] == y) with
              | true =>
                rw [hbb, Bool.true_or] at hst
                replace hst := Lib.hid hst; replace hsy := Lib.hid hsy
                go_wp2_with fail
                refine wp_region_near (by kernel_rfl) (by kernel_rfl) ?_
                intro hs
                repeat (go_big_quiet_step (fail))
                refine wpQuiet_nil ?_
                clear hs
                intro w9 hb9
                have hbs2 := hbs.trans (hb9.mono hbs.size)
                clear hb9
                go_wp2_with fail
                go_roundg (m - (q + 1))
                case measure => omega
                case rel => exact ⟨q + 1, by omega, rfl, by go_num, by rw [hst.out], hbs2⟩
              | false =>
                rw [hbb, Bool.false_or, ← hsy] at hst
                replace hst := Lib.hid hst
                clear hsy
                go_wp2_with fail
                refine wp_region_near (by kernel_rfl) (by kernel_rfl) ?_
                intro hs
                repeat (go_big_quiet_step (fail))
                refine wpQuiet_nil ?_
                clear hs
                intro w9 hb9
                have hbs2 := hbs.trans (hb9.mono hbs.size)
                clear hb9
                go_wp2_with fail
                go_roundg (m - (q + 1))
                case measure => omega
                case rel => exact ⟨q + 1, by omega, rfl, by go_num, by rw [hst.out], hbs2⟩
            · obtain rfl : q = m := by omega
              rw [List.take_of_length_le (by have := hc.out; omega)]
              have e2 := e0
              rw [← hbs.cell (p := ⟨b1, o1 + j, none⟩) hb1] at e2
              have hb1s : b1 < wr.heap.size := Nat.lt_of_lt_of_le hb1 hbs.size
              cases hbb : c.any (fun y => s[j] == y) with
              | true =>
                have hh := hhit.out j hjs hbb hno.out
                injection hh with hh1 hh2
                subst hh2
                have q9 : (vn != s[j]) = false := by simp [hh1]
                replace hh1 := Lib.hid hh1
                replace hbb := Lib.hid hbb
                go_wp2_with fail
                go_roundg (n + 1 - (j + 1))
                case measure => omega
                case rel => exact ⟨j + 1, true, by omega, rfl, by go_num, rfl, Lib.hid (by simp), hbws⟩
              | false =>
                have hno2 : ∀ k (hk : k < s.length), k < j + 1 → c.any (fun y => s[k] == y) = false := fun k hk h1 => by
                  by_cases e : k = j
                  · subst e; exact hbb
                  · exact hno.out k hk (by omega)
                replace hbb := Lib.hid hbb; replace hno2 := Lib.hid hno2
                go_wp2_with fail
                go_roundg (n + 1 - (j + 1))
                case measure => omega
                case rel => exact ⟨j + 1, false, by omega, rfl, by go_num, rfl, Lib.hid (by simpa using hno2.out), hbws⟩
        · cases met with
          | true =>
            have hvb := hinv.out
            simp only [if_true] at hvb
            subst hvb
            clear hinv
            by_cases hjn : j < n
            · go_wp2_with fail
              go_ret
              exact Ret.mk rfl (by repeat (first | with_reducible exact Below.refl _ _ | (with_reducible refine Below.al ?_) | (with_reducible refine Below.drew ?_) | (with_reducible refine Below.set ?_ (by first | (simp; done) | omega | (simp; omega))) | (with_reducible refine Below.thru ?_ (by assumption)) | (with_reducible refine Below.chg ?_ (by assumption) (by first | (simp; done) | omega | (simp; omega)))))
            · go_wp2_with fail
              go_ret
              exact Ret.mk rfl (by repeat (first | with_reducible exact Below.refl _ _ | (with_reducible refine Below.al ?_) | (with_reducible refine Below.drew ?_) | (with_reducible refine Below.set ?_ (by first | (simp; done) | omega | (simp; omega))) | (with_reducible refine Below.thru ?_ (by assumption)) | (with_reducible refine Below.chg ?_ (by assumption) (by first | (simp; done) | omega | (simp; omega)))))
          | false =>
            have hjn : ¬ j < n := fun h => hlt ⟨h, rfl⟩
            obtain rfl : j = n := by omega
            have hno := hinv.out
            simp only [Bool.false_eq_true, if_false] at hno
            have hv := hnone.out (fun k hk => hno k hk (by have := hs.out; omega))
            injection hv with hv1 hv2
            subst hv1 hv2
            clear hinv hno
            go_wp2_with fail
            go_ret
            exact Ret.mk rfl (by repeat (first | with_reducible exact Below.refl _ _ | (with_reducible refine Below.al ?_) | (with_reducible refine Below.drew ?_) | (with_reducible refine Below.set ?_ (by first | (simp; done) | omega | (simp; omega))) | (with_reducible refine Below.thru ?_ (by assumption)) | (with_reducible refine Below.chg ?_ (by assumption) (by first | (simp; done) | omega | (simp; omega)))))
end Go.Proofs.Ytljgmephajocaaa.Feat
