/- The walk of feat.Get. -/
import Derived.Test.YtljgmephajocaaaFeatPut
namespace Go.Proofs.Ytljgmephajocaaa.Feat
set_option linter.unusedSimpArgs false
set_option linter.unusedVariables false
open Go Go.RowKit Go.Shelf Go.Proofs.Ytljgmephajocaaa
open Go.Proofs.Ytljgmephajocaaa.Opts (str_emp)
attribute [local irreducible] Calls

theorem int_info : (Try.prog.info? 3).map (fun i => (i.zero, i.size, i.bytes)) = some (some (.int .i64 0), 1, 8) := by kernel_rfl
def numL : List UInt8 → Int
  | [] => 0
  | b :: _ => b.toNat
def likesL (l : List UInt8) : List Int := (l.drop 1).map fun b => (b.toNat : Int)
def getE (kind : Int) (l : List UInt8) : Int := if kindB kind then (if l.length = 0 then 1 else checkF (numL l) (likesL l)) else 7
def getN (kind : Int) (l : List UInt8) : Int := if getE kind l = 0 then numL l else 0
def getL (kind : Int) (l : List UInt8) : List Int := if getE kind l = 0 then likesL l else []
theorem i64s_app (l : List Int) (x : Int) : i64s l ++ [.int .i64 x] = i64s (l ++ [x]) := by simp [i64s]
theorem likes_step {L : List UInt8} {j : Nat} (hj : j < L.length) (h1 : 1 ≤ j) : likesL (L.take (j + 1)) = likesL (L.take j) ++ [(L[j].toNat : Int)] := by
  unfold likesL
  rw [List.take_succ_eq_append_getElem hj, List.drop_append_of_le_length (by simp; omega)]
  simp
theorem num_step {L : List UInt8} {j : Nat} (hj : j < L.length) (h1 : 1 ≤ j) : numL (L.take (j + 1)) = numL (L.take j) := by
  cases L with
  | nil => simp at hj
  | cons b t =>
    obtain ⟨i, rfl⟩ : ∃ i, j = i + 1 := ⟨j - 1, by omega⟩
    rfl
theorem likes_len (L : List UInt8) : (likesL L).length ≤ L.length := by simp [likesL]
/-- How a feature is handed back. -/
def FeatS (num : Int) (likes : List Int) (err : Int) (w : World) (e : Ending) (w' : World) : Prop :=
  ∃ lv, e = .returned (.tuple #[.agg #[.int .i64 num, lv], .int .i64 err]) ∧ St w none0 w' [rowA 1 lv likes.length (i64s likes)]
set_option maxRecDepth 100000 in
set_option maxHeartbeats 1600000 in
theorem get_any (kind : Int) (s : ByteArray) (hs : s.size ≤ 100000) (w : World) :
    Calls Try.prog 52 #[.agg #[.int .i64 kind, .string s]] w (FeatS (getN kind s.data.toList) (getL kind s.data.toList) (getE kind s.data.toList) w) := by
  obtain ⟨i0, hi, hz, hz1, hz2⟩ := info_parts int_info
  have hsl : s.data.toList.length = s.size := by simp
  have hsm : s.size ≤ maxLen := by unfold maxLen; omega
  have PK := kinded_any kind
  have H0 := ((((St.zero w).alloc [.int .i64 kind, .string s] 73).alloc [.int .i64 0, .slice none 0 0] 88).alloc [.int .i64 0, .slice none 0 0] 88).alloc [.int .i64 0, .slice none 0 0] 88
  simp only [World.size_alloc] at H0
  unfold FeatS getN getL getE
  obtain ⟨kb, hkb⟩ : ∃ kb, kindB kind = kb := ⟨_, rfl⟩
  rw [hkb] at PK
  simp only [hkb]
  clear hkb
  cases kb with
  | false =>
    simp only [Bool.false_eq_true, if_false, show ¬ (7 : Int) = 0 by omega]
    replace H0 := Lib.hid H0
    go_enter Try.func52, Try.ntmps52
    go_wp2_with fail
    refine Calls.mono (PK _) ?_
    rintro e w1 ⟨rfl, hb1⟩
    have H1 := H0.out.thru hb1
    obtain ⟨z0, c0, f0⟩ := H1.box 1 rfl
    obtain ⟨z1, c1, f1⟩ := H1.box 2 rfl
    have H2 := (((((H1.front 2 rfl)).set 0 rfl 0 (.int .i64 0) (by simp))).set 0 rfl 1 (.slice none 0 0) (by simp))
    clear H0
    replace H1 := Lib.hid H1; replace H2 := Lib.hid H2
    go_wp2_with fail
    refine bodyPost_ret (v := .tuple #[.agg #[.int .i64 0, .slice none 0 0], .int .i64 7]) (by simp [results, Try.results52, go_sem, c1, z1]; try rfl) rfl ?_
    exact ⟨_, rfl, ((St.zero w).thru H2.out.below).row_nil (size := 1)⟩
  | true =>
    simp only [if_true]
    by_cases hs0 : s.size = 0
    · have q : s.toList.isEmpty = true := by rw [str_emp]; exact decide_eq_true hs0
      simp only [hsl, if_pos hs0, show ¬ (1 : Int) = 0 by omega, if_false]
      replace H0 := Lib.hid H0
      go_enter Try.func52, Try.ntmps52
      go_wp2_with fail
      refine Calls.mono (PK _) ?_
      rintro e w1 ⟨rfl, hb1⟩
      have H1 := H0.out.thru hb1
      obtain ⟨z0, c0, f0⟩ := H1.box 1 rfl
      obtain ⟨z1, c1, f1⟩ := H1.box 2 rfl
      obtain ⟨z3, c3, f3⟩ := H1.box 3 rfl
      have H2 := (((((H1.front 2 rfl)).set 0 rfl 0 (.int .i64 0) (by simp))).set 0 rfl 1 (.slice none 0 0) (by simp))
      clear H0
      replace H1 := Lib.hid H1; replace H2 := Lib.hid H2
      go_wp2_with fail
      refine bodyPost_ret (v := .tuple #[.agg #[.int .i64 0, .slice none 0 0], .int .i64 1]) (by simp [results, Try.results52, go_sem, c1, z1]; try rfl) rfl ?_
      exact ⟨_, rfl, ((St.zero w).thru H2.out.below).row_nil (size := 1)⟩
    · have q : s.toList.isEmpty = false := by rw [str_emp]; exact decide_eq_false hs0
      simp only [hsl, if_neg hs0]
      obtain ⟨L, hL⟩ : ∃ L, L = s.data.toList := ⟨_, rfl⟩
      rw [← hL] at hsl ⊢
      obtain ⟨ck, hck⟩ : ∃ ck, checkF (numL L) (likesL L) = ck := ⟨_, rfl⟩
      have PC := fun W a cap h => check_any (numL L) (likesL L) (likesL L).length rfl (by have := likes_len L; omega) a cap W h
      rw [hck] at PC ⊢
      clear hck
      obtain ⟨N, hN⟩ : ∃ N, (if ck = 0 then numL L else 0) = N := ⟨_, rfl⟩
      obtain ⟨G, hG⟩ : ∃ G, (if ck = 0 then likesL L else []) = G := ⟨_, rfl⟩
      rw [hN, hG]
      have hpos : 0 < s.size := by omega
      replace H0 := Lib.hid H0; replace hL := Lib.hid hL; replace PC := Lib.hid PC; replace hs0 := Lib.hid hs0; replace hN := Lib.hid hN; replace hG := Lib.hid hG
      go_enter Try.func52, Try.ntmps52
      go_wp2_with fail
      refine Calls.mono (PK _) ?_
      rintro e w1 ⟨rfl, hb1⟩
      have H1 := H0.out.thru hb1
      obtain ⟨z3, c3, f3⟩ := H1.box 3 rfl
      clear H0
      replace H1 := Lib.hid H1
      go_wp2_with (refine wpList_bytes rfl (.tmp 21) _ _ _ rfl Try.underlying9 Try.underlying142 Try.underlying5 s rfl hsm ?_; intro v w2 hown hb2 hblk; rw [← hL.out] at hown; have H2 := (H1.out.row_new hb2 hown).row_nil (size := 1); obtain ⟨ba, bc, rfl, _⟩ := St.slice (by omega) 1 H2 rfl; have H3 := H2.arr [2, 0, 1, 3, 4, 5] rfl; clear hown hblk H2; replace H3 := Lib.hid H3)
      go_loopg [6, 7, 24] s.size (fun g _ _ i wr => ∃ (j : Nat) (lv : Value), j ≤ s.size ∧ g = s.size - j ∧ i = .int .i64 j ∧ St w none0 wr [cellA (w.heap.size + 1 + 1 + 1) [.int .i64 (numL (L.take j)), lv], rowA 1 lv (likesL (L.take j)).length (i64s (likesL (L.take j))), rowA 1 (.slice ba s.size bc) s.size (L.map byteVal), cellA (w.heap.size + 1 + 1) [.int .i64 0, .slice none 0 0], cellA (w.heap.size + 1) [.int .i64 0, .slice none 0 0], cellA w.heap.size [.int .i64 kind, .string s]])
      case atStart => exact ⟨0, .slice none 0 0, by omega, by omega, rfl, H3.out⟩
      case round =>
        obtain ⟨j, lv, hj, hg, rfl, hst⟩ := hrel
        obtain ⟨la, lc, rfl, _⟩ := St.slice (by omega) 1 hst rfl
        clear H3 H1 c3 f3 z3
        obtain ⟨zf, cf, ff⟩ := hst.box 0 rfl
        by_cases hlt : j < s.size
        · have hjl : j < L.length := by omega
          obtain ⟨b, off, rfl, hb, hc⟩ := (St.rd (by omega) 2 hst rfl).cons (by intro e; have := congrArg List.length e; simp only [List.length_map, List.length_nil] at this; omega)
          have e0 := hc j (byteVal L[j]) (by rw [List.getElem?_map, List.getElem?_eq_getElem hjl]; rfl)
          unfold byteVal at e0
          have hc256 := L[j].toNat_lt
          clear hc
          by_cases h1 : 1 ≤ j
          · have q2 : ((j : Int) == 0) = false := by simp; omega
            have hls := likes_step hjl h1
            have hns := num_step hjl h1
            generalize L[j] = c at *
            have hll : (likesL (L.take j)).length ≤ 100000 := by have := likes_len (L.take j); simp at this; omega
            generalize likesL (L.take j) = lk at *
            generalize numL (L.take j) = nm at *
            replace hst := Lib.hid hst; replace hls := Lib.hid hls; replace hns := Lib.hid hns
            go_wp2_with (at_builtin; (refine wpList_appS rfl (.tmp 35) (.tmp 38) _ rfl 3 i0 _ 1 8 Try.underlying46 hi hz hz1 hz2 rfl (by omega) 1 _ lk.length _ rfl hst.out rfl 1 1 [.int .i64 (c.toNat : Int)] rfl rfl (by simp [Value.oneCell']) (by omega) (by omega) ?_; intro wv5 w5 H5; obtain ⟨a5, c5, rfl, _⟩ := St.slice (by omega) 0 H5 rfl; obtain ⟨z5, k5, f5⟩ := H5.box 1 rfl; have H6 := (H5.set 1 rfl 1 (.slice a5 (lk.length + 1) c5) (by simp)); rw [i64s_app] at H6; replace H6 := Lib.hid H6; replace H5 := Lib.hid H5))
            go_roundg (s.size - (j + 1))
            case measure => omega
            case rel => exact ⟨j + 1, .slice a5 (lk.length + 1) c5, by omega, rfl, by go_num, by rw [hls.out, hns.out, List.length_append]; exact H6.out⟩
          · obtain rfl : j = 0 := by omega
            have hn1 : numL (L.take (0 + 1)) = (L[0].toNat : Int) := by
              cases L with
              | nil => simp at hjl
              | cons b t => rfl
            have hl1 : likesL (L.take (0 + 1)) = [] := by simp [likesL]
            have hl0 : likesL (L.take 0) = [] := by simp [likesL]
            have hn0 : numL (L.take 0) = 0 := by simp [numL]
            rw [hl0] at *
            rw [hn0] at *
            generalize L[0] = c at *
            simp only [Nat.add_zero] at e0
            have H6 := hst.set 0 rfl 0 (.int .i64 (c.toNat : Int)) (by simp)
            replace hst := Lib.hid hst; replace hn1 := Lib.hid hn1; replace hl1 := Lib.hid hl1; replace hl0 := Lib.hid hl0; replace hn0 := Lib.hid hn0; replace H6 := Lib.hid H6
            go_wp2_with fail
            go_roundg (s.size - (0 + 1))
            case measure => omega
            case rel => exact ⟨0 + 1, _, by omega, rfl, by go_num, by rw [hl1.out, hn1.out]; exact H6.out⟩
        · obtain rfl : j = s.size := by omega
          rw [show L.take s.size = L from List.take_of_length_le (by omega)] at hst cf
          have P := PC.out wr la lc (St.rd (by omega) 1 hst rfl)
          by_cases hc : ck = 0
          · subst hc
            have hN2 := hN.out
            have hG2 := hG.out
            simp only [if_true] at hN2 hG2
            subst hN2 hG2
            clear hN hG
            replace hst := Lib.hid hst
            go_wp2_with fail
            refine Calls.mono P ?_
            rintro e w3 ⟨rfl, hb3⟩
            have H4 := hst.out.thru hb3
            obtain ⟨z0, c0, f0⟩ := H4.box 0 rfl
            obtain ⟨z1, c1, f1⟩ := H4.box 4 rfl
            have H5 := (((((H4.front 4 rfl)).set 0 rfl 0 (.int .i64 (numL L)) (by simp))).set 0 rfl 1 (.slice la (likesL L).length lc) (by simp))
            clear P hst
            replace H4 := Lib.hid H4; replace H5 := Lib.hid H5
            go_wp2_with fail
            refine bodyPost_ret (v := .tuple #[.agg #[.int .i64 (numL L), .slice la (likesL L).length lc], .int .i64 0]) (by simp [results, Try.results52, go_sem, c1, z1]; try rfl) rfl ?_
            exact ⟨.slice la (likesL L).length lc, rfl, (H5.out.front 2 rfl).drops 1⟩
          · have q3 : (ck != 0) = true := by simp [hc]
            have hN2 := hN.out
            have hG2 := hG.out
            simp only [if_neg hc] at hN2 hG2
            subst hN2 hG2
            clear hN hG
            replace hst := Lib.hid hst; replace hc := Lib.hid hc
            go_wp2_with fail
            refine Calls.mono P ?_
            rintro e w3 ⟨rfl, hb3⟩
            have H4 := hst.out.thru hb3
            obtain ⟨z0, c0, f0⟩ := H4.box 3 rfl
            obtain ⟨z1, c1, f1⟩ := H4.box 4 rfl
            have H2 := (((((H4.front 4 rfl)).set 0 rfl 0 (.int .i64 0) (by simp))).set 0 rfl 1 (.slice none 0 0) (by simp))
            clear P hst
            replace H4 := Lib.hid H4; replace H2 := Lib.hid H2
            go_wp2_with fail
            refine bodyPost_ret (v := .tuple #[.agg #[.int .i64 0, .slice none 0 0], .int .i64 ck]) (by simp [results, Try.results52, go_sem, c1, z1]; try rfl) rfl ?_
            exact ⟨_, rfl, ((St.zero w).thru H2.out.below).row_nil (size := 1)⟩
end Go.Proofs.Ytljgmephajocaaa.Feat
