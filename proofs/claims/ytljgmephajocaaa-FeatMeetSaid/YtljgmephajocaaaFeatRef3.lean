/- The walk of feat's answer: Get. -/
import Derived.Test.YtljgmephajocaaaFeatRef2
import Derived.Test.YtljgmephajocaaaMadeTC
namespace Go.Proofs.Ytljgmephajocaaa.Feat
set_option linter.unusedSimpArgs false
set_option linter.unusedVariables false
open Go Go.RowKit Go.Shelf Go.Proofs.Ytljgmephajocaaa
open Go.Proofs.Ytljgmephajocaaa.Opts (u8 u8_nat arr_ext str_emp)
attribute [local irreducible] Calls

set_option maxRecDepth 100000 in
set_option maxHeartbeats 1600000 in
theorem rget_any (kind : Int) (s : ByteArray) (hs : s.size ≤ 100000) (w : World) :
    Calls Try.prog 53 #[.agg #[.int .i64 kind, .string s]] w (FeatS (getN kind s.data.toList) (getL kind s.data.toList) (getE kind s.data.toList) w) := by
  obtain ⟨i0, hi, hz, hz1, hz2⟩ := info_parts int_info
  have hsl : s.data.toList.length = s.size := by simp
  have H0 := (((St.zero w).alloc [.int .i64 kind, .string s] 73).alloc [.int .i64 0, .slice none 0 0] 88)
  simp only [World.size_alloc] at H0
  unfold FeatS getN getL getE
  by_cases h1 : kind < 32
  · have q1 : decide (kind < 32) = true := decide_eq_true h1
    have hk : kindB kind = false := by unfold kindB; rw [decide_eq_false (show ¬ 32 ≤ kind by omega)]; rfl
    simp only [hk, Bool.false_eq_true, if_false, show ¬ (7 : Int) = 0 by omega]
    clear hk
    have H2 := ((((H0).set 0 rfl 0 (.int .i64 0) (by simp))).set 0 rfl 1 (.slice none 0 0) (by simp))
    replace H0 := Lib.hid H0; replace H2 := Lib.hid H2
    go_enter Try.func53, Try.ntmps53
    go_wp2_with fail
    refine bodyPost_ret (v := .tuple #[.agg #[.int .i64 0, .slice none 0 0], .int .i64 7]) (by simp [results, Try.results53, go_sem]; try rfl) rfl ?_
    exact ⟨_, rfl, ((St.zero w).thru (by repeat (first | with_reducible exact Below.refl _ _ | (with_reducible refine Below.al ?_) | (with_reducible refine Below.drew ?_) | (with_reducible refine Below.set ?_ (by first | (simp; done) | omega | (simp; omega))) | (with_reducible refine Below.thru ?_ (by assumption)) | (with_reducible refine Below.chg ?_ (by assumption) (by first | (simp; done) | omega | (simp; omega)))))).row_nil (size := 1)⟩
  · have q1 : decide (kind < 32) = false := decide_eq_false h1
    by_cases h2 : 35 < kind
    · have q2 : decide (35 < kind) = true := decide_eq_true h2
      have hk : kindB kind = false := by unfold kindB; rw [decide_eq_false (show ¬ kind ≤ 35 by omega), Bool.and_false]
      simp only [hk, Bool.false_eq_true, if_false, show ¬ (7 : Int) = 0 by omega]
      clear hk
      have H2 := ((((H0).set 0 rfl 0 (.int .i64 0) (by simp))).set 0 rfl 1 (.slice none 0 0) (by simp))
      replace H0 := Lib.hid H0; replace H2 := Lib.hid H2
      go_enter Try.func53, Try.ntmps53
      go_wp2_with fail
      refine bodyPost_ret (v := .tuple #[.agg #[.int .i64 0, .slice none 0 0], .int .i64 7]) (by simp [results, Try.results53, go_sem]; try rfl) rfl ?_
      exact ⟨_, rfl, ((St.zero w).thru (by repeat (first | with_reducible exact Below.refl _ _ | (with_reducible refine Below.al ?_) | (with_reducible refine Below.drew ?_) | (with_reducible refine Below.set ?_ (by first | (simp; done) | omega | (simp; omega))) | (with_reducible refine Below.thru ?_ (by assumption)) | (with_reducible refine Below.chg ?_ (by assumption) (by first | (simp; done) | omega | (simp; omega)))))).row_nil (size := 1)⟩
    · have q2 : decide (35 < kind) = false := decide_eq_false h2
      have hk : kindB kind = true := by unfold kindB; rw [decide_eq_true (show 32 ≤ kind by omega), decide_eq_true (show kind ≤ 35 by omega)]; rfl
      simp only [hk, if_true]
      clear hk
      by_cases hs0 : s.size = 0
      · have q : s.toList.isEmpty = true := by rw [str_emp]; exact decide_eq_true hs0
        simp only [hsl, if_pos hs0, show ¬ (1 : Int) = 0 by omega, if_false]
        have H2 := ((((H0).set 0 rfl 0 (.int .i64 0) (by simp))).set 0 rfl 1 (.slice none 0 0) (by simp))
        replace H0 := Lib.hid H0; replace H2 := Lib.hid H2
        go_enter Try.func53, Try.ntmps53
        go_wp2_with fail
        refine bodyPost_ret (v := .tuple #[.agg #[.int .i64 0, .slice none 0 0], .int .i64 1]) (by simp [results, Try.results53, go_sem]; try rfl) rfl ?_
        exact ⟨_, rfl, ((St.zero w).thru (by repeat (first | with_reducible exact Below.refl _ _ | (with_reducible refine Below.al ?_) | (with_reducible refine Below.drew ?_) | (with_reducible refine Below.set ?_ (by first | (simp; done) | omega | (simp; omega))) | (with_reducible refine Below.thru ?_ (by assumption)) | (with_reducible refine Below.chg ?_ (by assumption) (by first | (simp; done) | omega | (simp; omega)))))).row_nil (size := 1)⟩
      · have q : s.toList.isEmpty = false := by rw [str_emp]; exact decide_eq_false hs0
        simp only [hsl, if_neg hs0]
        obtain ⟨L, hL⟩ : ∃ L, L = s.data.toList := ⟨_, rfl⟩
        rw [← hL] at hsl ⊢
        obtain ⟨ck, hck⟩ : ∃ ck, checkF (numL L) (likesL L) = ck := ⟨_, rfl⟩
        have PC := fun W a cap h => rcheck_any (numL L) (likesL L) (likesL L).length rfl (by have := likes_len L; omega) a cap W h
        rw [hck] at PC ⊢
        clear hck
        obtain ⟨N, hN⟩ : ∃ N, (if ck = 0 then numL L else 0) = N := ⟨_, rfl⟩
        obtain ⟨G, hG⟩ : ∃ G, (if ck = 0 then likesL L else []) = G := ⟨_, rfl⟩
        rw [hN, hG]
        have hpos : 0 < s.size := by omega
        have hn0 : ((s[0]'hpos).toNat : Int) = numL L := by
          have h3 := Go.Proofs.Ytljgmephajocaaa.Opts.byte_at hpos
          rw [List.drop_zero, ← hL] at h3
          rw [h3]
          rfl
        have hn256 : (s[0]'hpos).toNat < 256 := UInt8.toNat_lt _
        have H1 := ((H0.alloc [.int .i64 (numL L), .slice none 0 0] 88).row_nil (size := 1))
        simp only [World.size_alloc] at H1
        rw [← hn0] at H1
        have hlk1 : likesL (L.take 1) = [] := by simp [likesL]
        have hidx : ∀ i (hi : i < s.size) (hi2 : i < L.length), s[i] = L[i] := fun i hi hi2 => by subst hL; rfl
        replace H0 := Lib.hid H0; replace H1 := Lib.hid H1; replace hL := Lib.hid hL; replace PC := Lib.hid PC; replace hs0 := Lib.hid hs0; replace hN := Lib.hid hN; replace hG := Lib.hid hG; replace hidx := Lib.hid hidx; replace hn0 := Lib.hid hn0
        go_enter Try.func53, Try.ntmps53
        go_wp2_with fail
        go_loopg [5] (s.size - 1) (fun g i wr => ∃ (j : Nat) (lv : Value), j ≤ s.size ∧ 1 ≤ j ∧ g = s.size - j ∧ i = .int .i64 j ∧ St w none0 wr [cellA (w.heap.size + 1 + 1) [.int .i64 ((s[0]'hpos).toNat : Int), lv], rowA 1 lv (likesL (L.take j)).length (i64s (likesL (L.take j))), cellA (w.heap.size + 1) [.int .i64 0, .slice none 0 0], cellA w.heap.size [.int .i64 kind, .string s]])
        case atStart => exact ⟨1, .slice none 0 0, by omega, by omega, by omega, rfl, by rw [hlk1]; exact H1.out.arr [1, 0, 2, 3] rfl⟩
        case round =>
          obtain ⟨j, lv, hj, h1j, hg, rfl, hst⟩ := hrel
          obtain ⟨la, lc, rfl, _⟩ := St.slice (by omega) 1 hst rfl
          clear H1 H0
          obtain ⟨zf, cf, ff⟩ := hst.box 0 rfl
          obtain ⟨zo, co, fo⟩ := hst.box 3 rfl
          by_cases hlt : j < s.size
          · have hjl : j < L.length := by omega
            have hls := likes_step hjl h1j
            have hll : (likesL (L.take j)).length ≤ 100000 := by have := likes_len (L.take j); simp at this; omega
            have hc256 := (s[j]).toNat_lt
            rw [← hidx.out j hlt hjl] at hls
            generalize likesL (L.take j) = lk at *
            have HC := hst.arr [0, 3, 2, 1] rfl
            have HC1 : St w none0 wr [cellA (w.heap.size + 1 + 1) [.int .i64 ((s[0]'hpos).toNat : Int), .slice la lk.length lc], cellA w.heap.size [.int .i64 kind, .string s]] := HC.drops 2
            have hcl1 : ∀ (t : Cls w none0 [cellA (w.heap.size + 1 + 1) [.int .i64 ((s[0]'hpos).toNat : Int), .slice la lk.length lc], cellA w.heap.size [.int .i64 kind, .string s]]) (o : Nat), t.it.cell? ⟨w.heap.size + 1 + 1, o, none⟩ = [Value.int .i64 ((s[0]'hpos).toNat : Int), .slice la lk.length lc][o]? := fun t => (t.st.box 0 rfl).cells
            have hcl2 : ∀ (t : Cls w none0 [cellA (w.heap.size + 1 + 1) [.int .i64 ((s[0]'hpos).toNat : Int), .slice la lk.length lc], cellA w.heap.size [.int .i64 kind, .string s]]) (o : Nat), t.it.cell? ⟨w.heap.size, o, none⟩ = [Value.int .i64 kind, .string s][o]? := fun t => (t.st.box 1 rfl).cells
            have HD := Lib.hid hst.drew
            replace hst := Lib.hid hst; replace hls := Lib.hid hls; replace HC := Lib.hid HC; replace HC1 := Lib.hid HC1
            go_wp2_with fail
            haveI := St.ne HC1.out
            refine wp_region_toC HC1.out 10 [0, 1, 2, 3, 4, 5, 6] [true, true, true, true, true, true, true, false, false, false, false] 3 #[true, true, true, true, true, true, true, false, false, false, false] (by kernel_rfl) rfl (by kernel_rfl) (by kernel_rfl) rfl (by kernel_rfl) (by kernel_rfl) (by intro c a a' w e h; obtain ⟨t, d⟩ := a; obtain ⟨t', d'⟩ := a'; obtain rfl : d = d' := e; exact h) ?_
            simp only [pickB]
            repeat (go_big_quiet_step (fail))
            refine wpQuiet_nil ?_
            refine to_one (i := 7) (by kernel_rfl) fun K hK => ?_
            simp only [List.drop_succ_cons, List.drop_zero, List.take_succ_cons, List.take_zero]
            go_wp2_with fail
            have E1 := HD.out.alloc [.int .i64 ((s[j]).toNat : Int)] 3
            refine hK _ _ ((E1.arr [1, 4, 0, 2, 3] rfl).drops 2) ?_
            clear hK K
            refine to_one (i := 8) (by kernel_rfl) fun K hK => ?_
            simp only [List.drop_succ_cons, List.drop_zero, List.take_succ_cons, List.take_zero]
            go_wp2_with (at_builtin; (refine wpList_appRd rfl (.tmp 33) (.tmp 39) _ rfl 3 i0 _ 1 8 Try.underlying46 hi hz hz1 hz2 rfl (by omega) 2 (.slice la lk.length lc) lk.length (i64s lk) rfl E1 rfl _ 1 1 [.int .i64 ((s[j]).toNat : Int)] rfl rfl (St.box 0 E1 rfl).rd (by simp) (by simp [Value.oneCell']) (by omega) (by omega) ?_; intro wv6 w6 H6))
            refine hK _ _ ((H6.arr [2, 4, 0, 1, 3] rfl).drops 2) ?_
            clear hK K
            have HE := Lib.hid ((H6.arr [2, 4, 0, 1, 3] rfl).drops 2)
            refine to_one (i := 9) (by kernel_rfl) fun K hK => ?_
            simp only [List.drop_succ_cons, List.drop_zero, List.take_succ_cons, List.take_zero]
            go_wp2_with fail
            refine hK _ _ HE.out ?_
            clear hK K
            refine to_last (by kernel_rfl) (by kernel_rfl) fun K hK => ?_
            simp only [List.drop_succ_cons, List.drop_zero, List.take_succ_cons, List.take_zero]
            obtain ⟨a6, c6, rfl, _⟩ := St.slice (by omega) 0 H6 rfl
            obtain ⟨z6, k6, f6⟩ := H6.box 2 rfl
            have H7 := (H6.set 2 rfl 1 (.slice a6 (lk.length + 1) c6) (by simp))
            rw [i64s_app] at H7
            clear E1 HD
            replace H6 := Lib.hid H6; replace H7 := Lib.hid H7
            go_wp2_with fail
            go_roundg (s.size - (j + 1))
            case measure => omega
            case rel => exact ⟨j + 1, .slice a6 (lk.length + 1) c6, by omega, by omega, rfl, by go_num, by rw [hls.out, List.length_append]; exact (H7.out.arr [0, 1, 3, 4, 2] rfl).drops 4⟩
          · obtain rfl : j = s.size := by omega
            rw [show L.take s.size = L from List.take_of_length_le (by omega)] at hst cf
            have P := PC.out wr la lc (St.rd (by omega) 1 hst rfl)
            rw [← hn0.out] at P
            by_cases hc : ck = 0
            · subst hc
              have hN2 := hN.out
              have hG2 := hG.out
              simp only [if_true] at hN2 hG2
              rw [← hn0.out] at hN2
              subst hN2 hG2
              clear hN hG
              replace hst := Lib.hid hst
              go_wp2_with fail
              refine Calls.mono P ?_
              rintro e w3 ⟨rfl, hb3⟩
              have H4 := hst.out.thru hb3
              obtain ⟨z0, c0, f0⟩ := H4.box 0 rfl
              obtain ⟨z1, c1, f1⟩ := H4.box 2 rfl
              have H5 := (((((H4.front 2 rfl)).set 0 rfl 0 (.int .i64 ((s[0]'hpos).toNat : Int)) (by simp))).set 0 rfl 1 (.slice la (likesL L).length lc) (by simp))
              clear P hst
              replace H4 := Lib.hid H4; replace H5 := Lib.hid H5
              go_wp2_with fail
              refine bodyPost_ret (v := .tuple #[.agg #[.int .i64 ((s[0]'hpos).toNat : Int), .slice la (likesL L).length lc], .int .i64 0]) (by simp [results, Try.results53, go_sem, c1, z1]; try rfl) rfl ?_
              exact ⟨.slice la (likesL L).length lc, rfl, (H5.out.front 2 rfl).drops 1⟩
            · have q3 : (ck != 0) = true := by simp [hc]
              have hN2 := hN.out
              have hG2 := hG.out
              simp only [if_neg hc] at hN2 hG2
              subst hN2 hG2
              clear hN hG
              replace hst := Lib.hid hst; replace hc := Lib.hid hc
              go_wp2_with fail
              refine Calls.mono P ?_
              rintro e w3 ⟨rfl, hb3⟩
              have H4 := hst.out.thru hb3
              obtain ⟨z1, c1, f1⟩ := H4.box 2 rfl
              have H2 := (((((H4.front 2 rfl)).set 0 rfl 0 (.int .i64 0) (by simp))).set 0 rfl 1 (.slice none 0 0) (by simp))
              clear P hst
              replace H4 := Lib.hid H4; replace H2 := Lib.hid H2
              go_wp2_with fail
              refine bodyPost_ret (v := .tuple #[.agg #[.int .i64 0, .slice none 0 0], .int .i64 ck]) (by simp [results, Try.results53, go_sem, c1, z1]; try rfl) rfl ?_
              exact ⟨_, rfl, ((St.zero w).thru H2.out.below).row_nil (size := 1)⟩
end Go.Proofs.Ytljgmephajocaaa.Feat
