/- The walk of the statement ChannelParts. -/
import Derived.Test.YthodfihdmhkgeaaChanPlain
namespace Go.Proofs.Ythodfihdmhkgeaa.Chan
set_option linter.unusedSimpArgs false
set_option linter.unusedVariables false
open Go Go.RowKit Go.Proofs.Ythodfihdmhkgeaa
attribute [local irreducible] Calls

theorem dg_info : (Try.prog.info? 32).map (fun i => (i.zero, i.size, i.bytes)) = some (some (.agg #[.int .i64 0, .string ByteArray.empty]), 2, 24) := by kernel_rfl
theorem dgs_app (l : List Dg) (d : Dg) : dgs l ++ [Value.int .i64 d.1, .string d.2] = dgs (l ++ [d]) := by simp [dgs, enc]
theorem dgs_len (l : List Dg) : (dgs l).length = l.length * 2 := flat_len enc_len l

set_option maxRecDepth 100000 in
set_option maxHeartbeats 1000000 in
theorem parts_walk (a : Option Addr) (n cap : Nat) (a' : Option Addr) (m cap' : Nat) (w : World) (h0 : Fits w (.slice 1 .str) [.slice a n cap]) (h1 : Fits w (.slice 1 .bool) [.slice a' m cap']) :
    Calls Try.prog 4 #[.slice a n cap, .slice a' m cap'] w (Ret w (.bool true)) := by
  obtain ⟨hn, _, D, hl, _, hD⟩ := strs_in h0
  obtain ⟨hm, _, V, gl, hV⟩ := bools_in h1
  obtain ⟨i0, hi, hz, hz1, hz2⟩ := info_parts dg_info
  clear h0 h1
  unfold maxLen at hn hm
  obtain ⟨I, hup, hil, HI⟩ : ∃ I : List It, Up I ∧ I.length = D.length ∧ ∀ k (h : k < I.length) (h' : k < D.length), I[k] = (((k : Int) + 1, D[k]), V.getD k false) :=
    ⟨itemsOf D V, items_up D V, items_len D V, fun k h _ => items_at h⟩
  replace HI := Lib.hid HI
  replace hl := Lib.hid hl; replace gl := Lib.hid gl; replace hD := Lib.hid hD; replace hV := Lib.hid hV; replace hup := Lib.hid hup; replace hil := Lib.hid hil
  go_enter Try.func4, Try.ntmps4
  go_wp2_with fail
  refine Calls.mono (works_law _) ?_
  rintro e w1 ⟨rfl, hb1⟩
  have z1 := Below.size hb1; try simp only [World.size_alloc, World.size_setCell, World.size_drew] at z1
  have hb1' := hb1
  by_cases h150 : 150 < n
  · have q : decide ((150 : Int) < n) = true := decide_eq_true (by omega)
    go_wp2_with fail
    go_ret
    exact Ret.mk rfl (by repeat (first | with_reducible exact Below.refl _ _ | (with_reducible refine Below.al ?_) | (with_reducible refine Below.drew ?_) | (with_reducible refine Below.set ?_ (by first | (simp; done) | omega | (simp; omega))) | (with_reducible refine Below.thru ?_ (by assumption)) | (with_reducible refine Below.chg ?_ (by assumption) (by first | (simp; done) | omega | (simp; omega)))))
  · have q : decide ((150 : Int) < n) = false := decide_eq_false (by omega)
    have q150 : n ≤ 150 := by omega
    have hst0 : St w none0 w1 [rowA 2 (.slice none 0 0) 0 (dgs []), rowA 2 (.slice none 0 0) 0 (dgs [])] := ((St.zero w).thru hb1).row_nil.row_nil
    replace hst0 := Lib.hid hst0
    go_wp2_with fail
    go_loopg [5, 6, 7, 8, 9] n (fun g sv gv o i _ wr => ∃ k : Nat, k ≤ n ∧ g = n - k ∧ i = .int .i64 k ∧ o = .int .i64 (outI (I.take k)) ∧ outI (I.take k) ≤ k ∧ (gotI (I.take k)).length ≤ k ∧ St w none0 wr [rowA 2 sv k (dgs (sentI (I.take k))), rowA 2 gv (gotI (I.take k)).length (dgs (gotI (I.take k)))])
    case atStart => exact ⟨0, by omega, by omega, rfl, rfl, by simp [outI], by simp [gotI], hst0.out⟩
    case round =>
      obtain ⟨sv, hsv⟩ : ∃ sv, sv = u5 := ⟨_, rfl⟩
      obtain ⟨gv, hgv⟩ : ∃ gv, gv = u6 := ⟨_, rfl⟩
      subst hsv hgv
      obtain ⟨k, hk, hg, rfl, rfl, ho, hgl, hst⟩ := hrel
      have hbw := hst.below
      have zw := hbw.size
      replace hst := Lib.hid hst
      by_cases hlt : k < n
      · have hkl : k < D.length := by have := hl.out; omega
        have hkI : k < I.length := by have := hil.out; omega
        obtain ⟨b, off, rfl, hb, hc⟩ := (hD.out.below hbw).cons (strs_ne hl.out hlt)
        have e0 := hc k _ (strs_at hkl)
        clear hc
        have t1 := sent_take hkI
        have t2 := got_take hkI
        have t3 := out_take hkI
        rw [HI.out k hkI hkl] at t1 t2 t3
        have ho' := out_len (I.take (k + 1))
        have hgl' := got_len (I.take (k + 1))
        rw [List.length_take] at ho' hgl'
        generalize D[k] = s at *
        by_cases hs : 1000 < s.size
        · have q2 : decide ((1000 : Int) < s.size) = true := decide_eq_true (by omega)
          clear t1 t2 t3
          go_wp2_with fail
          go_ret
          exact hst.out.ret rfl
        · have q2 : decide ((1000 : Int) < s.size) = false := decide_eq_false (by omega)
          have hst1 := hst.out.alloc [.int .i64 ((k : Int) + 1), .string s] 32
          replace t1 := Lib.hid t1; replace t2 := Lib.hid t2; replace t3 := Lib.hid t3; replace hst1 := Lib.hid hst1
          by_cases hkm : k < m
          · have q3 : decide (k < m) = true := decide_eq_true hkm
            have hkV : k < V.length := by have := gl.out; omega
            have hlv' : V.getD k false = V[k] := by rw [List.getD_eq_getElem?_getD, List.getElem?_eq_getElem hkV, Option.getD_some]
            obtain ⟨b2, off2, rfl, hb2, hc2⟩ := hV.out.cons (bools_ne gl.out hkm)
            have g0 := hc2 k _ (bools_at hkV)
            clear hc2
            generalize V[k] = lv at *
            replace g0 := Lib.hid g0
            cases lv
            · replace hlv' := Lib.hid hlv'
              go_wp2_with (at_builtin; first
                | (refine wpList_appS rfl (.tmp 34) (.tmp 36) _ rfl 32 i0 _ 2 24 Try.underlying22 hi hz hz1 hz2 rfl (by omega) 1 sv k _ rfl hst1.out rfl 1 1 [.int .i64 ((k : Int) + 1), .string s] rfl rfl (by intro u hu; simp at hu; rcases hu with rfl | rfl <;> rfl) (by omega) (by omega) ?_; intro v5 w5 H5; obtain ⟨z5, c5, f5⟩ := H5.box 1 rfl; have g5 := ((H5.old hb2 id).1 (off2 + k)).trans g0.out; have hb5 : b2 < w5.heap.size := Nat.lt_of_lt_of_le hb2 H5.size; have H5 := Lib.hid H5)
                | (refine wpList_appS rfl (.tmp 50) (.tmp 52) _ rfl 32 i0 _ 2 24 Try.underlying22 hi hz hz1 hz2 rfl (by omega) 2 gv _ _ rfl H5.out rfl 1 1 [.int .i64 ((k : Int) + 1), .string s] rfl rfl (by intro u hu; simp at hu; rcases hu with rfl | rfl <;> rfl) (by omega) (by omega) ?_; intro v6 w6 H6; have H6 := Lib.hid H6))
              go_wp2_with fail
              go_roundg (n - (k + 1))
              case measure => omega
              case rel =>
                have H7 := (H6.out.front 1 rfl).drop 2 rfl
                have e1 := t1.out
                have e2 := t2.out
                have e3 := t3.out
                rw [hlv'.out] at e2 e3
                rw [if_neg (by simp)] at e2 e3
                refine ⟨k + 1, by omega, rfl, by go_num, by rw [e3]; rfl, by omega, by omega, ?_⟩
                rw [e1, e2, ← dgs_app, ← dgs_app, List.length_append]
                exact H7
            · replace hlv' := Lib.hid hlv'
              go_wp2_with (at_builtin; first
                | (refine wpList_appS rfl (.tmp 34) (.tmp 36) _ rfl 32 i0 _ 2 24 Try.underlying22 hi hz hz1 hz2 rfl (by omega) 1 sv k _ rfl hst1.out rfl 1 1 [.int .i64 ((k : Int) + 1), .string s] rfl rfl (by intro u hu; simp at hu; rcases hu with rfl | rfl <;> rfl) (by omega) (by omega) ?_; intro v5 w5 H5; obtain ⟨z5, c5, f5⟩ := H5.box 1 rfl; have g5 := ((H5.old hb2 id).1 (off2 + k)).trans g0.out; have hb5 : b2 < w5.heap.size := Nat.lt_of_lt_of_le hb2 H5.size; have H5 := Lib.hid H5)
                | (refine wpList_appS rfl (.tmp 50) (.tmp 52) _ rfl 32 i0 _ 2 24 Try.underlying22 hi hz hz1 hz2 rfl (by omega) 2 gv _ _ rfl H5.out rfl 1 1 [.int .i64 ((k : Int) + 1), .string s] rfl rfl (by intro u hu; simp at hu; rcases hu with rfl | rfl <;> rfl) (by omega) (by omega) ?_; intro v6 w6 H6; have H6 := Lib.hid H6))
              go_wp2_with fail
              go_roundg (n - (k + 1))
              case measure => omega
              case rel =>
                have H7 := H5.out.drop 1 rfl
                have e1 := t1.out
                have e2 := t2.out
                have e3 := t3.out
                rw [hlv'.out] at e2 e3
                rw [if_pos rfl] at e2 e3
                refine ⟨k + 1, by omega, rfl, by go_num, by rw [e3]; go_num, by omega, by omega, ?_⟩
                rw [e1, e2, ← dgs_app, List.append_nil]
                exact H7
          · have q3 : decide (k < m) = false := decide_eq_false hkm
            have hlv' : Hid (V.getD k false = false) := by
              show _ = _
              rw [List.getD_eq_getElem?_getD, List.getElem?_eq_none (by have := gl.out; omega)]; rfl
            go_wp2_with (at_builtin; first
              | (refine wpList_appS rfl (.tmp 34) (.tmp 36) _ rfl 32 i0 _ 2 24 Try.underlying22 hi hz hz1 hz2 rfl (by omega) 1 sv k _ rfl hst1.out rfl 1 1 [.int .i64 ((k : Int) + 1), .string s] rfl rfl (by intro u hu; simp at hu; rcases hu with rfl | rfl <;> rfl) (by omega) (by omega) ?_; intro v5 w5 H5; obtain ⟨z5, c5, f5⟩ := H5.box 1 rfl; skip; have H5 := Lib.hid H5)
              | (refine wpList_appS rfl (.tmp 50) (.tmp 52) _ rfl 32 i0 _ 2 24 Try.underlying22 hi hz hz1 hz2 rfl (by omega) 2 gv _ _ rfl H5.out rfl 1 1 [.int .i64 ((k : Int) + 1), .string s] rfl rfl (by intro u hu; simp at hu; rcases hu with rfl | rfl <;> rfl) (by omega) (by omega) ?_; intro v6 w6 H6; have H6 := Lib.hid H6))
            go_wp2_with fail
            go_roundg (n - (k + 1))
            case measure => omega
            case rel =>
              have H7 := (H6.out.front 1 rfl).drop 2 rfl
              have e1 := t1.out
              have e2 := t2.out
              have e3 := t3.out
              rw [hlv'.out] at e2 e3
              rw [if_neg (by simp)] at e2 e3
              refine ⟨k + 1, by omega, rfl, by go_num, by rw [e3]; rfl, by omega, by omega, ?_⟩
              rw [e1, e2, ← dgs_app, ← dgs_app, List.length_append]
              exact H7
      · have ek : I.take k = I := List.take_of_length_le (by have := hil.out; have := hl.out; omega)
        obtain rfl : k = n := by omega
        have hst2 : St w none0 wr [rowA 2 sv k (dgs (sentI I)), rowA 2 gv (gotI I).length (dgs (gotI I))] := by have h := hst.out; rw [ek] at h; exact h
        rw [ek] at ho hgl
        obtain ⟨a1, c1, rfl, hn1, _, R1⟩ := (hst2.row 0 rfl).rd (by omega)
        obtain ⟨a2, c2, rfl, hn2, _, R2⟩ := (hst2.row 1 rfl).rd (by omega)
        have sl : (sentI I).length = k := by unfold sentI; rw [List.length_map]; have := hil.out; have := hl.out; omega
        have p1 := rising_got hup.out
        have p2 := part_got I
        have p3 := within_got I
        have p4 := lost_got hup.out
        have p5 := fun h => part_not hup.out (l := I) h
        have p6 := fun h => within_not (l := I) h
        rw [ek] at *
        clear hst
        have hm' : (gotI I).length ≤ maxLen := hn2
        have q4 : (((lostL (sentI I) (gotI I)).length : Int) == (outI I : Int)) = true := by rw [p4]; simp
        have hkk : k ≤ maxLen := hn1
        replace R1 := Lib.hid R1; replace R2 := Lib.hid R2; replace sl := Lib.hid sl; replace p1 := Lib.hid p1; replace p2 := Lib.hid p2; replace p3 := Lib.hid p3; replace p4 := Lib.hid p4; replace hst2 := Lib.hid hst2
        have P5 := Lib.hid p5
        have P6 := Lib.hid p6
        clear p5 p6
        go_wp2_with fail
        refine Calls.mono (rising_any (gotI I) _ rfl hm' a2 c2 _ R2.out) ?_
        rintro e w2 ⟨rfl, hb2⟩
        have z2 := Below.size hb2; try simp only [World.size_alloc, World.size_setCell, World.size_drew] at z2
        rw [p1.out]
        go_wp2_with fail
        refine Calls.mono (part_any (sentI I) (gotI I) k _ sl.out hkk rfl hm' a1 c1 a2 c2 _ (R1.out.below hb2) (R2.out.below hb2)) ?_
        rintro e w3 ⟨rfl, hb3⟩
        have z3 := Below.size hb3; try simp only [World.size_alloc, World.size_setCell, World.size_drew] at z3
        rw [p2.out]
        have R1' := (R1.out.below hb2).below hb3
        have R2' := (R2.out.below hb2).below hb3
        replace R1' := Lib.hid R1'; replace R2' := Lib.hid R2'
        go_wp2_with fail
        refine Calls.mono (within_any (sentI I) (gotI I) k _ sl.out hkk rfl hm' a1 c1 a2 c2 _ R1'.out R2'.out) ?_
        rintro e w4 ⟨rfl, hb4⟩
        have z4 := Below.size hb4; try simp only [World.size_alloc, World.size_setCell, World.size_drew] at z4
        rw [p3.out]
        replace R1' := R1'.out.below hb4
        replace R2' := R2'.out.below hb4
        replace R1' := Lib.hid R1'; replace R2' := Lib.hid R2'
        go_wp2_with fail
        refine Calls.mono (lost_any (sentI I) (gotI I) k _ sl.out (by omega) rfl hm' a1 c1 a2 c2 _ R1'.out R2'.out) ?_
        rintro e w5 ⟨v, rfl, h5⟩
        have hb5 := h5.below
        replace R1' := R1'.out.below hb5
        replace R2' := R2'.out.below hb5
        obtain ⟨a3, c3, rfl, hn3, hn4, R3⟩ := (h5.row 0 rfl).rd (by omega)
        have hst5 := ((((hst2.out.thru hb2).thru hb3).thru hb4).thru hb5).below
        clear hn4 h5 R3
        replace R1' := Lib.hid R1'; replace R2' := Lib.hid R2'; replace hst5 := Lib.hid hst5
        by_cases ho0 : outI I = 0
        · have q5 : ((outI I : Int) == 0) = true := by simp [ho0]
          replace ho0 := Lib.hid ho0
          go_wp2_with fail
          go_ret
          exact Ret.mk rfl hst5.out
        · have q5 : ((outI I : Int) == 0) = false := by simp; omega
          have e5 := P5.out ho0
          have e6 := P6.out ho0
          clear ho0
          replace e5 := Lib.hid e5; replace e6 := Lib.hid e6
          go_wp2_with fail
          refine Calls.mono (part_any (gotI I) (sentI I) _ k rfl hm' sl.out hkk a2 c2 a1 c1 _ R2'.out R1'.out) ?_
          rintro e w6 ⟨rfl, hb6⟩
          have z6 := Below.size hb6; try simp only [World.size_alloc, World.size_setCell, World.size_drew] at z6
          rw [e5.out]
          replace R1' := R1'.out.below hb6
          replace R2' := R2'.out.below hb6
          replace R1' := Lib.hid R1'; replace R2' := Lib.hid R2'
          go_wp2_with fail
          refine Calls.mono (within_any (gotI I) (sentI I) _ k rfl hm' sl.out hkk a2 c2 a1 c1 _ R2'.out R1'.out) ?_
          rintro e w7 ⟨rfl, hb7⟩
          have z7 := Below.size hb7; try simp only [World.size_alloc, World.size_setCell, World.size_drew] at z7
          rw [e6.out]
          go_wp2_with fail
          go_ret
          have hst6 := hst5.out
          exact Ret.mk rfl (by repeat (first | with_reducible exact Below.refl _ _ | (with_reducible refine Below.al ?_) | (with_reducible refine Below.drew ?_) | (with_reducible refine Below.set ?_ (by first | (simp; done) | omega | (simp; omega))) | (with_reducible refine Below.thru ?_ (by assumption)) | (with_reducible refine Below.chg ?_ (by assumption) (by first | (simp; done) | omega | (simp; omega)))))
end Go.Proofs.Ythodfihdmhkgeaa.Chan
