/- The walk of the statement QueueDoes. -/
import Derived.Test.YthodfihdmhkgeaaQueueLaw
import Derived.Deep.CutBlock
import Derived.Deep.DeepCutAuto
namespace Go.Proofs.Ythodfihdmhkgeaa.Queue
set_option linter.unusedSimpArgs false
set_option linter.unusedVariables false
open Go Go.RowKit Go.Proofs.Ythodfihdmhkgeaa Go.Proofs.Ythodfihdmhkgeaa.DockDg
open Go.Proofs.Ythodfihdmhkgeaa.Chan (eqD eql_dg neq_dg)
attribute [local irreducible] Calls

theorem els_in {w : World} {a : Option Addr} {len cap : Nat} (h : Fits w (.slice 2 (.cons 1 (.int .i64) (.cons 1 .str .nil))) [.slice a len cap]) :
    len ≤ maxLen ∧ (a = none → len = 0) ∧ ∃ l : List El, l.length = len ∧ (∀ x ∈ l, isI64 x.1 ∧ x.2.size ≤ maxLen) ∧ Rd w a (encs l) :=
  rows_in (size := 2) enc (by omega) enc_len (fun cs hf _ => by
    obtain ⟨_, _, rfl, f0, r0⟩ := fits_cons1 hf
    obtain ⟨_, _, rfl, f1, r1⟩ := fits_cons1 r0
    obtain ⟨n, rfl, wn⟩ := fits_int f0
    obtain ⟨s, rfl, ws⟩ := fits_str f1
    obtain rfl : _ = [] := r1
    exact ⟨(n, s), rfl, bounds_i64 wn, ws⟩) h
theorem els_at {w : World} {a : Option Addr} {l : List El} (h : Rd w a (encs l)) {n : Nat} (hn : l.length = n) (h0 : 0 < n) :
    ∃ b off, a = some ⟨b, off, none⟩ ∧ b < w.heap.size ∧ ∀ i (hi : i < l.length), w.cell? ⟨b, off + i * 2, none⟩ = some (.int .i64 l[i].1) ∧ w.cell? ⟨b, off + i * 2 + 1, none⟩ = some (.string l[i].2) := by
  obtain ⟨b, off, e, hb, hc⟩ := Rd.rows enc_len (by omega) h hn h0
  exact ⟨b, off, e, hb, fun i hi => ⟨hc i hi 0 _ rfl, hc i hi 1 _ rfl⟩⟩

set_option maxRecDepth 100000 in
set_option maxHeartbeats 4000000 in
theorem does_walk (a : Option Addr) (n cap : Nat) (w : World) (h0 : Fits w (.slice 2 (.cons 1 (.int .i64) (.cons 1 .str .nil))) [.slice a n cap]) :
    Calls Try.prog 14 #[.slice a n cap] w (Ret w (.bool true)) := by
  obtain ⟨hn, _, L, hl, hgood, hL⟩ := els_in h0
  unfold maxLen at hn
  obtain ⟨i0, hi, hz, hz1, hz2⟩ := info_parts DelDg.el_info
  clear h0
  have e00 : eqD 0 ByteArray.empty 0 ByteArray.empty = true := eqD_self _ _
  have e01 : eqD 0 ByteArray.empty 0 ⟨#[]⟩ = true := eqD_self _ _
  have e02 : eqD 0 ⟨#[]⟩ 0 ⟨#[]⟩ = true := eqD_self _ _
  replace hl := Lib.hid hl; replace hL := Lib.hid hL; replace hgood := Lib.hid hgood
  go_enter Try.func14, Try.ntmps14
  go_wp2_with fail
  refine Calls.mono (works_law _) ?_
  rintro e w1 ⟨rfl, hb1⟩
  have z1 := Below.size hb1; try simp only [World.size_alloc, World.size_setCell, World.size_drew] at z1
  by_cases h300 : 300 < n
  · have q : decide ((300 : Int) < n) = true := decide_eq_true (by omega)
    go_wp2_with fail
    go_ret
    exact Ret.mk rfl (by repeat (first | with_reducible exact Below.refl _ _ | (with_reducible refine Below.al ?_) | (with_reducible refine Below.drew ?_) | (with_reducible refine Below.set ?_ (by first | (simp; done) | omega | (simp; omega))) | (with_reducible refine Below.thru ?_ (by assumption)) | (with_reducible refine Below.chg ?_ (by assumption) (by first | (simp; done) | omega | (simp; omega)))))
  · have qq : decide ((300 : Int) < n) = false := decide_eq_false (by omega)
    have q300 : n ≤ 300 := by omega
    go_wp2_with fail
    refine Calls.mono (new_any _) ?_
    rintro e w2 ⟨q, rfl, H2⟩
    have H2' : St w none0 w2 [queueA q 0 [], rowA 2 (.slice none 0 0) 0 (encs [])] := (((St.zero w).thru hb1).row_nil.add H2)
    clear H2
    replace H2' := Lib.hid H2'
    go_wp2_with fail
    go_loopg [5, 6, 7, 8, 9, 10, 11, 12, 13] n (fun g wv la i _ _ _ _ _ _ wr => ∃ (j : Nat) (last : Int) (l : List El), j ≤ n ∧ g = n - j ∧ i = .int .i64 j ∧ la = .int .i64 last ∧ 0 ≤ last ∧ last ≤ j ∧ l.length ≤ 32 ∧ St w none0 wr [queueA q last l, rowA 2 wv l.length (encs l)])
    case atStart => exact ⟨0, 0, [], by omega, by omega, rfl, rfl, by omega, by omega, by simp, H2'.out⟩
    case round =>
      obtain ⟨wv, hwv⟩ : ∃ v, v = u5 := ⟨_, rfl⟩
      subst hwv
      obtain ⟨j, last, l, hj, hg, rfl, rfl, hla0, hla1, hl32, hst⟩ := hrel
      obtain ⟨av, cv, hwv, hnv, hlv, RV⟩ := (hst.row 1 rfl).rd (by omega)
      rw [hwv] at hst ⊢
      clear hlv RV
      unfold maxLen at hnv
      have zw := hst.size
      have hbw := hst.below
      by_cases hlt : j < n
      · have hjl : j < L.length := by have := hl.out; omega
        obtain ⟨b, off, rfl, hb, hc⟩ := els_at (hL.out.below hbw) hl.out (by omega)
        obtain ⟨e0, e1⟩ := hc j hjl
        have hgd := (hgood.out L[j] (List.getElem_mem hjl)).2
        clear hc
        generalize L[j] = ob at *
        obtain ⟨kind, dat⟩ := ob
        simp only at e0 e1 hgd
        unfold maxLen at hgd
        have hst1 := (hst.alloc [.int .i64 kind, .string dat] 94).front 1 rfl
        clear hst hwv
        by_cases hs : 1000 < dat.size
        · have s1 : decide ((1000 : Int) < dat.size) = true := decide_eq_true (by omega)
          replace hst1 := Lib.hid hst1
          go_wp2_with fail
          go_ret
          exact hst1.out.ret rfl
        · have s1 : decide ((1000 : Int) < dat.size) = false := decide_eq_false (by omega)
          replace hst1 := Lib.hid hst1
          go_upto_block 2 with fail
          go_cut [5, 6] (fun wv5 la5 wx => ∃ (last' : Int) (l' : List El), la5 = .int .i64 last' ∧ 0 ≤ last' ∧ last' ≤ (j : Int) + 1 ∧ l'.length ≤ 32 ∧ St w none0 wx [queueA q last' l', rowA 2 wv5 l'.length (encs l')])
          case first =>
            by_cases k01 : kind = 0 ∨ kind = 1
            · by_cases hlong : 200 < dat.size
              · have s2 : decide ((200 : Int) < dat.size) = true := decide_eq_true (by omega)
                have P := put_long_st dat hlong (by unfold maxLen; omega) hst1.out
                clear hst1
                by_cases hf : 32 ≤ l.length
                · have s3 : decide ((32 : Int) ≤ (l.length : Int)) = true := decide_eq_true (by omega)
                  rcases k01 with rfl | rfl
                  all_goals
                    go_wp2_with fail
                    refine Calls.mono P ?_
                    rintro e w4 ⟨rfl, H4⟩
                    replace H4 := Lib.hid H4
                    clear P
                    go_wp2_with fail
                    go_meet
                    exact ⟨last, l, rfl, hla0, by omega, hl32, H4.out.drop 1 rfl⟩
                · have s3 : decide ((32 : Int) ≤ (l.length : Int)) = false := decide_eq_false (by omega)
                  rcases k01 with rfl | rfl
                  all_goals
                    go_wp2_with fail
                    refine Calls.mono P ?_
                    rintro e w4 ⟨rfl, H4⟩
                    replace H4 := Lib.hid H4
                    clear P
                    go_wp2_with fail
                    go_meet
                    exact ⟨last, l, rfl, hla0, by omega, hl32, H4.out.drop 1 rfl⟩
              · have s2 : decide ((200 : Int) < dat.size) = false := decide_eq_false (by omega)
                by_cases hf : 32 ≤ l.length
                · have s3 : decide ((32 : Int) ≤ (l.length : Int)) = true := decide_eq_true (by omega)
                  have P := put_full_st dat (by omega) (by omega) hst1.out
                  clear hst1
                  rcases k01 with rfl | rfl
                  all_goals
                    go_wp2_with fail
                    refine Calls.mono P ?_
                    rintro e w4 ⟨rfl, H4⟩
                    replace H4 := Lib.hid H4
                    clear P
                    go_wp2_with fail
                    go_meet
                    exact ⟨last, l, rfl, hla0, by omega, hl32, H4.out.drop 1 rfl⟩
                · have s3 : decide ((32 : Int) ≤ (l.length : Int)) = false := decide_eq_false (by omega)
                  have P := put_ok_st dat (by omega) (by omega) hla0 (by omega) hst1.out
                  clear hst1
                  rcases k01 with rfl | rfl
                  all_goals
                    go_wp2_with fail
                    refine Calls.mono P ?_
                    rintro e w4 ⟨rfl, H4⟩
                    clear P
                    obtain ⟨z4, c4, f4⟩ := H4.box 1 rfl
                    replace H4 := Lib.hid H4
                    go_wp2_with (at_builtin; (refine wpList_appS rfl (.tmp 61) (.tmp 66) _ rfl 32 i0 _ 2 24 Try.underlying22 hi hz hz1 hz2 rfl (by omega) 2 _ l.length _ rfl H4.out rfl 1 1 [.int .i64 (last + 1), .string dat] rfl rfl (by simp [Value.oneCell']) (by omega) (by omega) ?_; intro wv5 w5 H5; replace H5 := Lib.hid H5))
                    go_meet
                    refine ⟨last + 1, l ++ [(last + 1, dat)], rfl, by omega, by omega, by simp; omega, ?_⟩
                    rw [List.length_append, ← encs_app]
                    exact (H5.out.front 1 rfl).drop 2 rfl
            · have q0 : (kind == 0) = false := by simp; omega
              have q1 : (kind == 1) = false := by simp; omega
              by_cases k2 : kind = 2
              · subst k2
                clear k01 q0 q1
                cases l with
                | nil =>
                  have P := sent_nil_st hst1.out
                  clear hst1
                  go_wp2_with fail
                  refine Calls.mono P ?_
                  rintro e w4 ⟨rfl, H4⟩
                  clear P
                  replace H4 := Lib.hid H4
                  have hm0 : (min (0 : Int) 1).toNat = 0 := by decide
                  go_wp2_with fail
                  go_meet
                  exact ⟨last, [], rfl, hla0, by omega, by simp, H4.out.drop 1 rfl⟩
                | cons x l2 =>
                  have P := sent_cons_st hst1.out
                  have hm0 : min ((l2.length : Int) + 1) 1 = 1 := by omega
                  have hlq : (x :: l2).length = l2.length + 1 := rfl
                  obtain ⟨g5, o5, cp5, hv5⟩ := row_some (hst1.out.row 2 rfl) (by simp)
                  injection hv5 with hv6 hv7 hv8
                  subst hv8
                  subst hv6
                  obtain ⟨hcap5, _⟩ := (hst1.out.row 2 rfl).roomy
                  simp only [List.length_cons] at hcap5
                  clear hst1 hv7
                  go_wp2_with fail
                  refine Calls.mono P ?_
                  rintro e w4 ⟨rfl, H4⟩
                  clear P
                  replace H4 := Lib.hid H4
                  by_cases hc1 : cv = 1
                  · obtain rfl : l2 = [] := List.eq_nil_of_length_eq_zero (by omega)
                    subst hc1
                    go_wp2_with fail
                    go_meet
                    exact ⟨last, [], rfl, hla0, by omega, by simp, ((H4.out.drop 1 rfl).tail0 (k := 1) rfl).front 1 rfl⟩
                  · have H5 := ((H4.out.drop 1 rfl).tail (i := 1) (k := 1) rfl (by simp)).front 1 rfl
                    rw [encs_drop] at H5
                    replace H5 := Lib.hid H5
                    go_wp2_with fail
                    go_meet
                    exact ⟨last, l2, rfl, hla0, by omega, by simp at hl32; omega, H5.out⟩
              · by_cases k3 : kind = 3
                · subst k3
                  clear k01 q0 q1 k2
                  have P := clear_st (by omega) hst1.out
                  clear hst1
                  go_wp2_with fail
                  refine Calls.mono P ?_
                  rintro e w4 ⟨rfl, H4⟩
                  have H5 := ((H4.drop 2 rfl).drop 1 rfl).row_nil (size := 2)
                  clear P H4
                  replace H5 := Lib.hid H5
                  go_wp2_with fail
                  go_meet
                  exact ⟨last, [], rfl, hla0, by omega, by simp, H5.out.front 1 rfl⟩
                · have q2 : (kind == 2) = false := by simp; omega
                  have q3 : (kind == 3) = false := by simp; omega
                  go_wp2_with fail
                  go_meet
                  exact ⟨last, l, rfl, hla0, by omega, hl32, hst1.out.drop 1 rfl⟩
          case rest =>
            obtain ⟨last', l', rfl, hm0, hm1, hm32, HT⟩ := hcut
            clear hst1 e0 e1 hla0 hla1 hl32 hnv
            replace HT := Lib.hid HT
            cases l' with
            | nil =>
              have F := first_nil_st HT.out
              have zT := HT.out.size
              obtain ⟨av5, cv5, hv5, _, _, _⟩ := (HT.out.row 1 rfl).rd (by omega)
              rw [hv5] at HT ⊢
              clear hv5
              simp only [List.length_nil] at HT ⊢
              go_wp2_with fail
              refine Calls.mono F ?_
              rintro e w8 ⟨rfl, hb8⟩
              have H8 := (HT.out.thru hb8).skip (.cells #[.int .i64 0, .string ByteArray.empty] 32)
              clear F HT
              replace H8 := Lib.hid H8
              go_wp2_with fail
              refine wp_region_near (by kernel_rfl) (by kernel_rfl) ?_
              intro hs
              repeat (go_big_quiet_step ((first | (go_at_call 51; exact Calls.near (by simp) (len_st (H8.out.thruB (by simp) (Near.near _)))) | (go_at_call 64; exact Calls.near (by simp) (last_st (H8.out.thruB (by simp) (Near.near _)))))))
              refine wpQuiet_nil ?_
              clear hs
              intro w9 hb9
              have H9 := H8.out.thruB (by simp) hb9
              replace H9 := Lib.hid H9
              clear H8
              go_wp2_with fail
              go_roundg (n - (j + 1))
              case measure => omega
              case rel => exact ⟨j + 1, last', [], by omega, rfl, by go_num, by go_num, by omega, by omega, by simp, H9.out⟩
            | cons x l2 =>
              have F := first_cons_st HT.out
              have zT := HT.out.size
              obtain ⟨g5, o5, cp5, hv5⟩ := row_some (HT.out.row 1 rfl) (by simp)
              rw [hv5] at HT ⊢
              clear hv5
              obtain ⟨_, _, eR, _, _, RT⟩ := (HT.out.row 1 rfl).rd (by omega)
              injection eR with eR1 eR2 eR3
              obtain ⟨b5, f5, eb5, hlt5, hc5⟩ := els_at RT rfl (by simp)
              rw [← eR1] at eb5
              injection eb5 with eb5
              injection eb5 with eb6 eb7
              subst eb6 eb7
              obtain ⟨e50, e51⟩ := hc5 0 (by simp)
              simp only [Nat.zero_mul, Nat.add_zero, List.getElem_cons_zero] at e50 e51
              have hlen5 : ((x : El) :: l2).length = (l2).length + 1 := rfl
              have ek : eqD (x).1 (x).2 (x).1 (x).2 = true := eqD_self _ _
              clear eR1 eR2 eR3 RT hc5
              go_wp2_with fail
              refine Calls.mono F ?_
              rintro e w8 ⟨rfl, hb8⟩
              obtain ⟨c8, f8⟩ := Below.blk hb8 (b := g5) (by first | (simp; done) | omega | (simp; omega))
              have e80 := (c8 o5).trans e50
              have e81 := (c8 (o5 + 1)).trans e51
              have z8 : g5 < w8.heap.size := Nat.lt_of_lt_of_le hlt5 hb8.size
              have H8 := (HT.out.thru hb8).skip (.cells #[.int .i64 (x).1, .string (x).2] 32)
              clear F HT c8 f8 e50 e51
              replace H8 := Lib.hid H8
              go_wp2_with fail
              refine wp_region_near (by kernel_rfl) (by kernel_rfl) ?_
              intro hs
              repeat (go_big_quiet_step ((first | (go_at_call 51; exact Calls.near (by simp) (len_st (H8.out.thruB (by simp) (Near.near _)))) | (go_at_call 64; exact Calls.near (by simp) (last_st (H8.out.thruB (by simp) (Near.near _)))))))
              refine wpQuiet_nil ?_
              clear hs
              intro w9 hb9
              have H9 := H8.out.thruB (by simp) hb9
              replace H9 := Lib.hid H9
              clear H8
              go_wp2_with fail
              go_roundg (n - (j + 1))
              case measure => omega
              case rel => exact ⟨j + 1, last', x :: l2, by omega, rfl, by go_num, by go_num, by omega, by omega, hm32, H9.out⟩
      · replace hst := Lib.hid hst
        clear hwv
        go_wp2_with fail
        refine Calls.mono (put_none _ _) ?_
        rintro e w3 ⟨rfl, hb3⟩
        have H3 := hst.out.thru hb3
        clear hst
        replace H3 := Lib.hid H3
        go_wp2_with fail
        refine Calls.mono (first_none _) ?_
        rintro e w4 ⟨rfl, hb4⟩
        have H4 := (H3.out.thru hb4).skip (.cells #[.int .i64 0, .string ByteArray.empty] 32)
        clear H3
        replace H4 := Lib.hid H4
        go_wp2_with fail
        refine Calls.mono (sent_none _) ?_
        rintro e w5 ⟨rfl, hb5⟩
        have z5 := Below.size hb5; try simp only [World.size_alloc, World.size_setCell, World.size_drew] at z5
        have H5 := H4.out.thru hb5
        go_wp2_with fail
        refine Calls.mono (len_none _) ?_
        rintro e w6 ⟨rfl, hb6⟩
        have z6 := Below.size hb6; try simp only [World.size_alloc, World.size_setCell, World.size_drew] at z6
        have H6 := H5.thru hb6
        go_wp2_with fail
        refine Calls.mono (last_none _) ?_
        rintro e w7 ⟨rfl, hb7⟩
        have z7 := Below.size hb7; try simp only [World.size_alloc, World.size_setCell, World.size_drew] at z7
        have H7 := H6.thru hb7
        go_wp2_with fail
        refine Calls.mono (clear_none _) ?_
        rintro e w8 ⟨rfl, hb8⟩
        have z8 := Below.size hb8; try simp only [World.size_alloc, World.size_setCell, World.size_drew] at z8
        have H8 := H7.thru hb8
        go_wp2_with fail
        go_ret
        exact H8.ret rfl
end Go.Proofs.Ythodfihdmhkgeaa.Queue
