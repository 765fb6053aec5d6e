/- The walk of the statement HeardTells. -/
import Derived.Test.YtfdijoaclpnccaaHeardPlain
namespace Go.Proofs.Ytfdijoaclpnccaa.Heard
set_option linter.unusedSimpArgs false
set_option linter.unusedVariables false
open Go Go.RowKit Go.Proofs.Ytfdijoaclpnccaa Go.Proofs.Ytfdijoaclpnccaa.Circ
attribute [local irreducible] Calls

theorem bytes_in {w : World} {a : Option Addr} {len cap : Nat} (h : Fits w (.slice 1 (.int .u8)) [.slice a len cap]) :
    len ≤ maxLen ∧ (a = none → len = 0) ∧ ∃ l : List Int, l.length = len ∧ (∀ x ∈ l, 0 ≤ x ∧ x ≤ 255) ∧ Rd w a (l.map (Value.int .u8)) := by
  obtain ⟨h0, hn, l, h1, h2, h3⟩ := rows_in (size := 1) (fun n : Int => [Value.int .u8 n]) (by omega) (fun _ => rfl) (good := fun x : Int => 0 ≤ x ∧ x ≤ 255) (fun cs hf _ => by
    obtain ⟨n, rfl, hw⟩ := hf
    have := bounds_u8 hw
    exact ⟨n, rfl, by omega⟩) h
  exact ⟨h0, hn, l, h1, h2, by rw [map_flat] at h3; exact h3⟩
theorem works_got : gotH ⟨ofC 5, [true], 0, 0⟩ 7 = (⟨7, [true, false, true], 1, 0⟩, true) := by rfl
theorem works_told : Avec.ofL (toldL [true, false, true]) = [⟨0, 1⟩, ⟨3, 1⟩, ⟨0, 1⟩] := by rfl
set_option maxRecDepth 100000 in
set_option maxHeartbeats 400000 in
theorem works_law (w : World) : Calls Try.prog 37 #[] w (Ret w (.bool true)) := by
  go_enter Try.func37, Try.ntmps37
  go_wp2_with fail
  refine Calls.mono (new_any 5 _) ?_
  rintro e w1 ⟨d, rfl, H1⟩
  obtain ⟨S1, hS1, _, c1⟩ := H1.at 0 rfl
  have P := got_any d _ 7 w1 S1 hS1 (by simp) (by simp)
  rw [works_got] at P
  replace c1 := Lib.hid c1
  replace P := Lib.hid P
  clear hS1 H1
  go_wp2_with fail
  refine Calls.mono P.out ?_
  rintro e w2 ⟨rfl, H2⟩
  replace H2 := c1.out _ _ H2
  simp only [List.cons_append, List.nil_append, List.eraseIdx_cons_zero] at H2
  clear c1 P
  obtain ⟨S2, hS2, _, _⟩ := H2.at 0 rfl
  have P1 := newest_any d _ w2 S2 hS2
  have H3 := H2
  clear hS2
  replace H2 := Lib.hid H2; replace H3 := Lib.hid H3; replace P1 := Lib.hid P1
  go_wp2_with fail
  refine Calls.mono P1.out ?_
  rintro e w3 ⟨rfl, hb3⟩
  replace H3 := H3.out.thru hb3
  clear P1
  obtain ⟨S3, hS3, _, _⟩ := H3.at 0 rfl
  have P2 := has_any d ⟨7, [true, false, true], 1, 0⟩ 5 w3 S3 hS3 (by simp)
  rw [show hasH ⟨7, [true, false, true], 1, 0⟩ 5 = true by decide] at P2
  clear hS3
  replace H3 := Lib.hid H3; replace P2 := Lib.hid P2
  go_wp2_with fail
  refine Calls.mono P2.out ?_
  rintro e w4 ⟨rfl, hb4⟩
  have H4 := H3.out.thru hb4
  clear P2 H3
  obtain ⟨S4, hS4, _, _⟩ := H4.at 0 rfl
  have P3 := has_any d ⟨7, [true, false, true], 1, 0⟩ 6 w4 S4 hS4 (by simp)
  rw [show hasH ⟨7, [true, false, true], 1, 0⟩ 6 = false by decide] at P3
  clear hS4
  replace H4 := Lib.hid H4; replace P3 := Lib.hid P3
  go_wp2_with fail
  refine Calls.mono P3.out ?_
  rintro e w5 ⟨rfl, hb5⟩
  have H5 := H4.out.thru hb5
  clear P3 H4
  obtain ⟨S5, hS5, _, _⟩ := H5.at 0 rfl
  have P4 := wants_one d _ _ w5 S5 hS5
  clear hS5
  replace H5 := Lib.hid H5; replace P4 := Lib.hid P4
  go_wp2_with fail
  refine Calls.mono P4.out ?_
  rintro e w6 ⟨rfl, hb6⟩
  have H6 := H5.out.thru hb6
  clear P4 H5
  obtain ⟨S6, hS6, _, _⟩ := H6.at 0 rfl
  have P5 := wants_two d _ _ w6 S6 hS6
  clear hS6
  replace H6 := Lib.hid H6; replace P5 := Lib.hid P5
  go_wp2_with fail
  refine Calls.mono P5.out ?_
  rintro e w7 ⟨rfl, hb7⟩
  have H7 := H6.out.thru hb7
  clear P5 H6
  obtain ⟨S7, hS7, _, _⟩ := H7.at 0 rfl
  have P6 := vector_any d _ w7 S7 hS7 (by simp)
  rw [works_told] at P6
  clear hS7
  replace H7 := Lib.hid H7; replace P6 := Lib.hid P6
  go_wp2_with fail
  refine Calls.mono P6.out ?_
  rintro e w8 ⟨v, rfl, H8⟩
  obtain ⟨a8, c8, rfl, _, _, R8⟩ := (H8.row 0 rfl).rd (by omega)
  have H9 := (H7.out.add H8).alloc [.int .i64 0, .int .i64 1, .int .i64 3, .int .i64 1, .int .i64 0, .int .i64 1] 115
  have R9 := (H9.box 0 rfl).rd
  have P7 := Avec.same_any [⟨0, 1⟩, ⟨3, 1⟩, ⟨0, 1⟩] 3 rfl (by unfold maxLen; omega) a8 c8 _ 3 _ (R8.below ((Below.refl _ _).alloc (Nat.le_refl _) _)) R9
  clear R8 R9 H8 P6 H7 H2
  replace H9 := Lib.hid H9; replace P7 := Lib.hid P7
  go_wp2_with fail
  refine Calls.mono P7.out ?_
  rintro e w9 ⟨rfl, hb9⟩
  have H10 := Lib.hid (H9.out.thru hb9)
  clear P7 H9
  go_wp2_with fail
  go_ret
  exact H10.out.ret rfl

theorem bools_get {l : List Bool} {k : Nat} (h : k < l.length) : (bools l)[k]? = some (.bool (l.getD k false)) := by
  rw [bools_at h, List.getD_eq_getElem?_getD, List.getElem?_eq_getElem h]
  rfl
theorem bools_set (l : List Bool) (k : Nat) (b : Bool) : (bools l).set k (.bool b) = bools (l.set k b) := by unfold bools; rw [List.map_set]
set_option maxRecDepth 100000 in
set_option maxHeartbeats 2000000 in
theorem walk (a0 : Int) (w0 : (Lit.int .i64 a0).wf = true) (a1 : Option Addr) (len cap1 : Nat) (w : World) (h1 : Fits w (.slice 1 (.int .u8)) [.slice a1 len cap1]) :
    Calls Try.prog 7 #[.int .i64 a0, .slice a1 len cap1] w (Ret w (.bool true)) := by
  obtain ⟨i0, hi, hz, hz1, hz2⟩ := info_parts bool_info
  obtain ⟨hn, _, l, hl, hlb, hL⟩ := bytes_in h1
  unfold maxLen at hn
  clear h1
  replace hlb := Lib.hid hlb; replace hL := Lib.hid hL
  go_enter Try.func7, Try.ntmps7
  go_wp2_with fail
  refine Calls.mono (works_law _) ?_
  rintro e w1 ⟨rfl, hb1⟩
  have z1 := Below.size hb1; try simp only [World.size_alloc, World.size_setCell, World.size_drew] at z1
  by_cases h200 : len ≤ 200
  · have q0 : decide ((200 : Int) < (len : Int)) = false := decide_eq_false (by omega)
    go_wp2_with fail
    refine Calls.mono (new_any a0 _) ?_
    rintro e w2 ⟨d, rfl, H2⟩
    replace H2 := ((St.zero w).thru hb1).add H2
    replace H2 := Lib.hid H2
    go_wp2_with (refine wpList_makeS rfl _ _ _ rfl 4 i0 (.bool false) 1 Try.underlying64 hi hz hz1 .i64 .i64 256 256 256 rfl rfl rfl rfl (by rw [hz2]; omega) (by unfold maxLen; omega) _ (made_one _ _ rfl) H2.out ?_; intro w3 H3; obtain ⟨z3, k3, f3⟩ := H3.box 0 rfl; replace H3 := Lib.hid H3)
    have H4 := H3.out.set 0 rfl 0 (.bool true) (by simp)
    rw [show (List.replicate 256 (Value.bool false)).set 0 (.bool true) = bools ((List.replicate 256 false).set 0 true) by unfold bools; rw [List.map_set, List.map_replicate]] at H4
    replace H4 := Lib.hid H4
    clear H2 H3 k3
    go_loopg [7, 8, 9, 10, 11] len (fun gg nv i _ _ _ wr => ∃ (j N : Nat) (hh : Hd) (cb : List Bool), j ≤ len ∧ gg = len - j ∧ i = .int .i64 j ∧ nv = .int .i64 N ∧ Hid (Inv a0 N hh cb) ∧ 0 ≤ hh.untold ∧ hh.untold ≤ j ∧ St w none0 wr [cellA w2.heap.size (bools cb), heardA d hh])
    case atStart => exact ⟨0, 0, _, _, by omega, by omega, rfl, rfl, inv_start a0, by simp, by simp, H4.out⟩
    case round =>
      obtain ⟨j, N, hh, cb, hj, hg, rfl, rfl, hI, hu0, hu1, hst⟩ := hrel
      clear H4
      have hN := hI.out.most
      have hall := hI.out.all
      by_cases hlt : j < len
      · have hjl : j < l.length := by omega
        obtain ⟨n, hnl⟩ : ∃ n : Nat, l[j] = n := ⟨l[j].toNat, by have := hlb.out l[j] (List.getElem_mem hjl); omega⟩
        have hn5 : n ≤ 255 := by have := hlb.out l[j] (List.getElem_mem hjl); omega
        obtain ⟨b, off, rfl, hb, hc⟩ := (hL.out.below hst.below).cons (by intro e; have := congrArg List.length e; simp only [List.length_map, List.length_nil] at this; omega)
        have e0 := hc j (.int .u8 n) (by rw [List.getElem?_map, List.getElem?_eq_getElem hjl, hnl]; rfl)
        clear hc hnl
        obtain ⟨hfr, hI2, hv0, hv1⟩ := got_step hI.out hn5 hu0
        have hle := hI.out.le
        have A := fun W => radd_any a0 n W
        generalize hgt : gotH hh (ofC (a0 + n)) = gg2 at *
        have G := fun W S HS => got_any d hh (ofC (a0 + n)) W S HS hle ⟨hu0, by omega⟩
        rw [hgt, hfr] at G
        clear hfr hle hgt
        obtain ⟨h2, _⟩ := gg2
        simp only at hI2 hv0 hv1 G
        obtain ⟨c, hcv⟩ : ∃ c, c = cb.getD n false := ⟨_, rfl⟩
        rw [freshB_val, ← hcv] at hI2 G
        replace hst := Lib.hid hst; replace A := Lib.hid A; replace G := Lib.hid G; replace hI2 := Lib.hid hI2
        go_wp2_with fail
        refine Calls.mono (A.out _) ?_
        rintro e wa ⟨rfl, hba⟩
        have Ha := hst.out.thru hba
        obtain ⟨S1, hS1, _, c1⟩ := Ha.at 1 rfl
        have G2 := G.out wa S1 hS1
        clear A G hst Ha hS1
        replace c1 := Lib.hid c1; replace G2 := Lib.hid G2
        go_wp2_with fail
        refine Calls.mono G2.out ?_
        rintro e wb ⟨rfl, HB⟩
        have H3 := c1.out _ _ HB
        simp only [List.cons_append, List.nil_append, List.eraseIdx_cons_zero, List.eraseIdx_cons_succ] at H3
        obtain ⟨zc, kc, fc⟩ := H3.box 1 rfl
        have ec := kc n
        rw [bools_get (by omega), ← hcv] at ec
        clear G2 c1 HB kc
        replace hI2 := hI2.out
        by_cases h128 : (N : Int) - n < 128
        · have q1 : decide ((N : Int) - n < 128) = true := decide_eq_true h128
          rw [q1] at hI2 ⊢
          cases c with
          | true =>
            simp only [Bool.not_true, Bool.false_and, Bool.or_false] at hI2 ⊢
            replace hI2 := Lib.hid hI2; replace H3 := Lib.hid H3; replace hcv := Lib.hid hcv
            replace H3 := H3.out
            have H6 := H3.set 1 rfl n (.bool true) (by rw [bools_len, hall]; omega)
            rw [bools_set] at H6
            replace H6 := Lib.hid H6
            clear H3
            go_wp2_with fail
            go_roundg (len - (j + 1))
            case measure => omega
            case rel => exact ⟨j + 1, max N n, _, _, by omega, rfl, by go_num, by first | rfl | go_num, hI2, by omega, by omega, H6.out⟩
          | false =>
            simp only [Bool.not_false, Bool.true_and, Bool.false_or] at hI2 ⊢
            replace hI2 := Lib.hid hI2; replace H3 := Lib.hid H3; replace hcv := Lib.hid hcv
            replace H3 := H3.out
            have H6 := H3.set 1 rfl n (.bool true) (by rw [bools_len, hall]; omega)
            rw [bools_set] at H6
            replace H6 := Lib.hid H6
            clear H3
            go_wp2_with fail
            go_roundg (len - (j + 1))
            case measure => omega
            case rel => exact ⟨j + 1, max N n, _, _, by omega, rfl, by go_num, by first | rfl | go_num, hI2, by omega, by omega, H6.out⟩
        · have q1 : decide ((N : Int) - n < 128) = false := decide_eq_false h128
          rw [q1] at hI2 ⊢
          simp only [Bool.and_false, Bool.or_false] at hI2 ⊢
          cases c with
          | true =>
            replace hI2 := Lib.hid hI2; replace H3 := Lib.hid H3; replace hcv := Lib.hid hcv
            replace H3 := H3.out
            have H6 := H3.set 1 rfl n (.bool true) (by rw [bools_len, hall]; omega)
            rw [bools_set] at H6
            replace H6 := Lib.hid H6
            clear H3
            go_wp2_with fail
            go_roundg (len - (j + 1))
            case measure => omega
            case rel => exact ⟨j + 1, max N n, _, _, by omega, rfl, by go_num, by first | rfl | go_num, hI2, by omega, by omega, H6.out⟩
          | false =>
            replace hI2 := Lib.hid hI2; replace H3 := Lib.hid H3; replace hcv := Lib.hid hcv
            replace H3 := H3.out
            have H6 := H3.set 1 rfl n (.bool false) (by rw [bools_len, hall]; omega)
            rw [bools_set] at H6
            replace H6 := Lib.hid H6
            clear H3
            go_wp2_with fail
            go_roundg (len - (j + 1))
            case measure => omega
            case rel => exact ⟨j + 1, max N n, _, _, by omega, rfl, by go_num, by first | rfl | go_num, hI2, by omega, by omega, H6.out⟩
      · obtain rfl : j = len := by omega
        obtain ⟨S1, hS1, _, _⟩ := hst.at 1 rfl
        have P := vector_any d hh wr S1 hS1 hI.out.le
        have hrl : (Avec.ofL (toldL hh.came)).length ≤ 1000000 := by
          have h1 := Avec.of_len (toldL hh.came)
          have h2 := hI.out.le
          rw [show (toldL hh.came).length = hh.came.length by simp [toldL]] at h1
          omega
        have T := fun (k : Nat) (hk : k ≤ 255) => told_at hI.out hk
        generalize Avec.ofL (toldL hh.came) = V at *
        clear hS1
        replace hst := Lib.hid hst; replace P := Lib.hid P; replace T := Lib.hid T
        go_wp2_with fail
        refine Calls.mono P.out ?_
        rintro e w5 ⟨v, rfl, H5⟩
        obtain ⟨av, cv, rfl, _, _, RV⟩ := (H5.row 0 rfl).rd (by omega)
        have H6 := (hst.out.add H5).drop 0 rfl
        simp only [List.eraseIdx_cons_zero, List.cons_append, List.nil_append] at H6
        obtain ⟨SN, hSN, _, _⟩ := H6.at 1 rfl
        clear P hst H5
        have NW := hI.out.newest
        replace H6 := Lib.hid H6; replace RV := Lib.hid RV; replace NW := Lib.hid NW
        go_wp2_with fail
        go_loopg [13, 14] 256 (fun gg i _ wz => ∃ n : Nat, n ≤ 256 ∧ gg = 256 - n ∧ i = .int .i64 n ∧ Below w5.heap.size w5 wz)
        case atStart => exact ⟨0, by omega, by omega, rfl, (by repeat (first | with_reducible exact Below.refl _ _ | (with_reducible refine Below.al ?_) | (with_reducible refine Below.drew ?_) | (with_reducible refine Below.set ?_ (by first | (simp; done) | omega | (simp; omega))) | (with_reducible refine Below.thru ?_ (by assumption)) | (with_reducible refine Below.chg ?_ (by assumption) (by first | (simp; done) | omega | (simp; omega)))))⟩
        case round =>
          obtain ⟨n, hn6, hg6, rfl, hbz⟩ := hrel
          have H7 := H6.out.thru hbz
          by_cases hn7 : n < 256
          · have q7 : decide ((n : Int) < 256) = true := decide_eq_true (by omega)
            obtain ⟨S7, hS7, _, _⟩ := H7.at 1 rfl
            have P1 := newest_any d hh _ S7 hS7
            have P2 := fun W => radd_any a0 n W
            obtain ⟨t1, t2⟩ := T.out n (by omega)
            have hz : 0 ≤ hh.newest ∧ hh.newest ≤ 281474976710656 := by
              have := ofC_bd (a0 + N)
              rw [NW.out]
              omega
            have P3 := fun W hW => at_any hh.newest (ofC (a0 + n)) (sayI N n cb) V V.length rfl hrl av cv W hW hz t1 t2
            have sz := say_zero N n cb
            clear t1 t2 hz hS7
            have q1 : decide ((n : Int) ≤ N) = decide (n ≤ N) := by
              by_cases h : n ≤ N
              · rw [decide_eq_true h, decide_eq_true (by omega)]
              · rw [decide_eq_false h, decide_eq_false (by omega)]
            generalize sayI N n cb = x at *
            generalize q2 : decide ((N : Int) - n < 128) = y1 at *
            generalize q3 : decide (n ≤ N) = y2 at *
            generalize hcv : cb.getD n false = c at *
            replace H7 := Lib.hid H7
            replace hcv := Lib.hid hcv
            replace P1 := Lib.hid P1; replace P2 := Lib.hid P2; replace P3 := Lib.hid P3
            cases y2 with
            | false =>
              have s0 : (x == 0) = false := sz
              clear sz
              go_wp2_with fail
              refine Calls.mono P1.out ?_
              rintro e w7 ⟨rfl, hb7⟩
              clear P1
              go_wp2_with fail
              refine Calls.mono (P2.out _) ?_
              rintro e w8 ⟨rfl, hb8⟩
              clear P2
              have P4 := P3.out w8 (((RV.out.below hbz).below hb7).below hb8)
              replace P4 := Lib.hid P4
              clear P3
              go_wp2_with fail
              refine Calls.mono P4.out ?_
              rintro e w9 ⟨rfl, hb9⟩
              have H9 := ((H7.out.thru hb7).thru hb8).thru hb9
              obtain ⟨zc, kc, fc⟩ := H9.box 0 rfl
              have ec := kc n
              rw [bools_get (by rw [hall]; omega), hcv.out] at ec
              clear kc P4 H9
              have hbb : Below w5.heap.size w5 w9 := ((hbz.trans (hb7.mono hbz.size)).trans (hb8.mono (Nat.le_trans hbz.size hb7.size))).trans (hb9.mono (Nat.le_trans (Nat.le_trans hbz.size hb7.size) hb8.size))
              replace hbb := Lib.hid hbb
              go_wp2_with fail
              go_roundg (256 - (n + 1))
              case measure => omega
              case rel => exact ⟨n + 1, by omega, rfl, by go_num, hbb.out⟩
            | true =>
              cases y1 with
              | false =>
                have s0 : (x == 0) = false := sz
                clear sz
                go_wp2_with fail
                refine Calls.mono P1.out ?_
                rintro e w7 ⟨rfl, hb7⟩
                clear P1
                go_wp2_with fail
                refine Calls.mono (P2.out _) ?_
                rintro e w8 ⟨rfl, hb8⟩
                clear P2
                have P4 := P3.out w8 (((RV.out.below hbz).below hb7).below hb8)
                replace P4 := Lib.hid P4
                clear P3
                go_wp2_with fail
                refine Calls.mono P4.out ?_
                rintro e w9 ⟨rfl, hb9⟩
                have H9 := ((H7.out.thru hb7).thru hb8).thru hb9
                obtain ⟨zc, kc, fc⟩ := H9.box 0 rfl
                have ec := kc n
                rw [bools_get (by rw [hall]; omega), hcv.out] at ec
                clear kc P4 H9
                have hbb : Below w5.heap.size w5 w9 := ((hbz.trans (hb7.mono hbz.size)).trans (hb8.mono (Nat.le_trans hbz.size hb7.size))).trans (hb9.mono (Nat.le_trans (Nat.le_trans hbz.size hb7.size) hb8.size))
                replace hbb := Lib.hid hbb
                go_wp2_with fail
                go_roundg (256 - (n + 1))
                case measure => omega
                case rel => exact ⟨n + 1, by omega, rfl, by go_num, hbb.out⟩
              | true =>
                cases c with
                | false =>
                  have s0 : (x == 0) = false := sz
                  clear sz
                  go_wp2_with fail
                  refine Calls.mono P1.out ?_
                  rintro e w7 ⟨rfl, hb7⟩
                  clear P1
                  go_wp2_with fail
                  refine Calls.mono (P2.out _) ?_
                  rintro e w8 ⟨rfl, hb8⟩
                  clear P2
                  have P4 := P3.out w8 (((RV.out.below hbz).below hb7).below hb8)
                  replace P4 := Lib.hid P4
                  clear P3
                  go_wp2_with fail
                  refine Calls.mono P4.out ?_
                  rintro e w9 ⟨rfl, hb9⟩
                  have H9 := ((H7.out.thru hb7).thru hb8).thru hb9
                  obtain ⟨zc, kc, fc⟩ := H9.box 0 rfl
                  have ec := kc n
                  rw [bools_get (by rw [hall]; omega), hcv.out] at ec
                  clear kc P4 H9
                  have hbb : Below w5.heap.size w5 w9 := ((hbz.trans (hb7.mono hbz.size)).trans (hb8.mono (Nat.le_trans hbz.size hb7.size))).trans (hb9.mono (Nat.le_trans (Nat.le_trans hbz.size hb7.size) hb8.size))
                  replace hbb := Lib.hid hbb
                  go_wp2_with fail
                  go_roundg (256 - (n + 1))
                  case measure => omega
                  case rel => exact ⟨n + 1, by omega, rfl, by go_num, hbb.out⟩
                | true =>
                  have s0 : (x == 0) = true := sz
                  clear sz
                  go_wp2_with fail
                  refine Calls.mono P1.out ?_
                  rintro e w7 ⟨rfl, hb7⟩
                  clear P1
                  go_wp2_with fail
                  refine Calls.mono (P2.out _) ?_
                  rintro e w8 ⟨rfl, hb8⟩
                  clear P2
                  have P4 := P3.out w8 (((RV.out.below hbz).below hb7).below hb8)
                  replace P4 := Lib.hid P4
                  clear P3
                  go_wp2_with fail
                  refine Calls.mono P4.out ?_
                  rintro e w9 ⟨rfl, hb9⟩
                  have H9 := ((H7.out.thru hb7).thru hb8).thru hb9
                  obtain ⟨zc, kc, fc⟩ := H9.box 0 rfl
                  have ec := kc n
                  rw [bools_get (by rw [hall]; omega), hcv.out] at ec
                  clear kc P4 H9
                  have hbb : Below w5.heap.size w5 w9 := ((hbz.trans (hb7.mono hbz.size)).trans (hb8.mono (Nat.le_trans hbz.size hb7.size))).trans (hb9.mono (Nat.le_trans (Nat.le_trans hbz.size hb7.size) hb8.size))
                  replace hbb := Lib.hid hbb
                  go_wp2_with fail
                  go_roundg (256 - (n + 1))
                  case measure => omega
                  case rel => exact ⟨n + 1, by omega, rfl, by go_num, hbb.out⟩
          · obtain rfl : n = 256 := by omega
            obtain ⟨S7, hS7, _, _⟩ := H7.at 1 rfl
            have P1 := newest_any d hh _ S7 hS7
            have P2 := fun W => radd_any a0 N W
            rw [NW.out] at P1
            replace H7 := Lib.hid H7
            replace P1 := Lib.hid P1; replace P2 := Lib.hid P2
            clear hS7
            go_wp2_with fail
            refine Calls.mono P1.out ?_
            rintro e w7 ⟨rfl, hb7⟩
            clear P1
            go_wp2_with fail
            refine Calls.mono (P2.out _) ?_
            rintro e w8 ⟨rfl, hb8⟩
            clear P2
            have H8 := Lib.hid ((H7.out.thru hb7).thru hb8)
            go_wp2_with fail
            go_ret
            exact H8.out.ret rfl
  · have q0 : decide ((200 : Int) < (len : Int)) = true := decide_eq_true (by omega)
    go_wp2_with fail
    go_ret
    exact Ret.mk rfl (by repeat (first | with_reducible exact Below.refl _ _ | (with_reducible refine Below.al ?_) | (with_reducible refine Below.drew ?_) | (with_reducible refine Below.set ?_ (by first | (simp; done) | omega | (simp; omega))) | (with_reducible refine Below.thru ?_ (by assumption)) | (with_reducible refine Below.chg ?_ (by assumption) (by first | (simp; done) | omega | (simp; omega)))))
end Go.Proofs.Ytfdijoaclpnccaa.Heard
