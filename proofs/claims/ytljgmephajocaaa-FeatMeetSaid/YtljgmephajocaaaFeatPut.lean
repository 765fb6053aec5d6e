/- The walk of feat.Put. -/
import Derived.Test.YtljgmephajocaaaFeat
import Derived.Test.YtljgmephajocaaaOptsPut
namespace Go.Proofs.Ytljgmephajocaaa.Feat
set_option linter.unusedSimpArgs false
set_option linter.unusedVariables false
open Go Go.RowKit Go.Shelf Go.Proofs.Ytljgmephajocaaa
open Go.Proofs.Ytljgmephajocaaa.Opts (u8 u8_nat)
attribute [local irreducible] Calls

theorem byte_info : (Try.prog.info? 5).map (fun i => (i.zero, i.size, i.bytes)) = some (some (.int .u8 0), 1, 1) := by kernel_rfl
def kindB (k : Int) : Bool := decide (32 ≤ k) && decide (k ≤ 35)
theorem kinded_any (k : Int) (w : World) : Calls Try.prog 103 #[.int .i64 k] w (Ret w (.bool (kindB k))) := by
  unfold kindB
  cases h : decide (32 ≤ k) with
  | true =>
    rw [Bool.true_and]
    go_enter Try.func103, Try.ntmps103
    go_wp2_with fail
    go_ret
    exact Ret.mk rfl (by repeat (first | with_reducible exact Below.refl _ _ | (with_reducible refine Below.al ?_) | (with_reducible refine Below.drew ?_) | (with_reducible refine Below.set ?_ (by first | (simp; done) | omega | (simp; omega))) | (with_reducible refine Below.thru ?_ (by assumption)) | (with_reducible refine Below.chg ?_ (by assumption) (by first | (simp; done) | omega | (simp; omega)))))
  | false =>
    rw [Bool.false_and]
    go_enter Try.func103, Try.ntmps103
    go_wp2_with fail
    go_ret
    exact Ret.mk rfl (by repeat (first | with_reducible exact Below.refl _ _ | (with_reducible refine Below.al ?_) | (with_reducible refine Below.drew ?_) | (with_reducible refine Below.set ?_ (by first | (simp; done) | omega | (simp; omega))) | (with_reducible refine Below.thru ?_ (by assumption)) | (with_reducible refine Below.chg ?_ (by assumption) (by first | (simp; done) | omega | (simp; omega)))))
def bytesF (num : Int) (likes : List Int) : List UInt8 := u8 num :: likes.map u8
/-- A feature as an option, what is wrong. -/
def putE (kind num : Int) (likes : List Int) : Int := if kindB kind then checkF num likes else 7
def putO (kind num : Int) (likes : List Int) : Int × ByteArray := if putE kind num likes = 0 then (kind, ⟨(bytesF num likes).toArray⟩) else (0, ⟨#[]⟩)
theorem byteVal_u8 {n : Int} (h0 : 0 ≤ n) (h : n ≤ 255) : byteVal (u8 n) = .int .u8 n := by
  have := u8_nat h0 h
  unfold byteVal
  rw [this]
theorem checkF_ok {num : Int} {l : List Int} (h : checkF num l = 0) : 1 ≤ num ∧ num ≤ 127 ∧ 0 < l.length ∧ l.length ≤ 20 ∧ ∀ x ∈ l, 0 ≤ x ∧ x ≤ 255 := by
  unfold checkF at h
  split at h
  · cases h
  · split at h
    · cases h
    · split at h
      · cases h
      · split at h
        · cases h
        · rename_i h1 h2 h3 h4
          refine ⟨by omega, by omega, by omega, by omega, fun x hx => ?_⟩
          have : l.any outB = false := by simpa using h4
          have := List.any_eq_false.1 this x hx
          unfold outB at this
          simp at this
          omega
set_option maxRecDepth 100000 in
set_option maxHeartbeats 800000 in
theorem put_any (kind num : Int) (l : List Int) (n : Nat) (hl : l.length = n) (hn : n ≤ 1000000) (a : Option Addr) (cap : Nat) (w : World) (h : Rd w a (i64s l)) :
    Calls Try.prog 50 #[.int .i64 kind, .agg #[.int .i64 num, .slice a n cap]] w (Ret w (.tuple #[.agg #[.int .i64 (putO kind num l).1, .string (putO kind num l).2], .int .i64 (putE kind num l)])) := by
  obtain ⟨i0, hi, hz, hz1, hz2⟩ := info_parts byte_info
  have PC := fun W hW => check_any num l n hl hn a cap W (h.below hW)
  have PK := kinded_any kind
  have H0 := ((St.zero w).alloc [.int .i64 num, .slice a n cap] 88).alloc [.int .i64 0, .string ⟨#[]⟩] 73
  simp only [World.size_alloc] at H0
  unfold putO putE
  obtain ⟨kb, hkb⟩ : ∃ kb, kindB kind = kb := ⟨_, rfl⟩
  rw [hkb] at PK
  simp only [hkb]
  cases kb with
  | false =>
    simp only [Bool.false_eq_true, if_false, show ¬ (7 : Int) = 0 by omega]
    clear PC h
    replace H0 := Lib.hid H0
    go_enter Try.func50, Try.ntmps50
    go_wp2_with fail
    refine Calls.mono (PK _) ?_
    rintro e w1 ⟨rfl, hb1⟩
    have H1 := H0.out.thru hb1
    obtain ⟨z1, c1, f1⟩ := H1.box 0 rfl
    have H2 := ((((H1).set 0 rfl 0 (.int .i64 0) (by simp))).set 0 rfl 1 (.string ⟨#[]⟩) (by simp))
    clear H0
    replace H1 := Lib.hid H1; replace H2 := Lib.hid H2
    go_wp2_with fail
    exact bodyPost_ret (v := .tuple #[.agg #[.int .i64 0, .string ⟨#[]⟩], .int .i64 7]) (by simp [results, Try.results50, go_sem, c1, z1]; try rfl) rfl (Ret.mk rfl H2.out.below)
  | true =>
    simp only [if_true]
    obtain ⟨ck, hck⟩ : ∃ ck, checkF num l = ck := ⟨_, rfl⟩
    rw [hck] at PC
    simp only [hck]
    by_cases hc : ck = 0
    · subst hc
      simp only [if_true]
      obtain ⟨k1, k2, k3, k4, k5⟩ := checkF_ok hck
      clear hck
      have hEq : ∃ v, (ByteArray.mk (bytesF num l).toArray) = v := ⟨_, rfl⟩
      obtain ⟨v, hv⟩ := hEq
      rw [hv]
      replace H0 := Lib.hid H0; replace h := Lib.hid h; replace hl := Lib.hid hl; replace PC := Lib.hid PC; replace k5 := Lib.hid k5; replace hv := Lib.hid hv
      go_enter Try.func50, Try.ntmps50
      go_wp2_with fail
      refine Calls.mono (PK _) ?_
      rintro e w1 ⟨rfl, hb1⟩
      have H1 := H0.out.thru hb1
      obtain ⟨z1, c1, f1⟩ := H1.box 0 rfl
      obtain ⟨z2, c2, f2⟩ := H1.box 1 rfl
      have P2 := PC.out w1 H1.below
      clear H0 PC
      replace H1 := Lib.hid H1
      go_wp2_with fail
      refine Calls.mono P2 ?_
      rintro e w2 ⟨rfl, hb2⟩
      have H2 := H1.out.thru hb2
      clear P2 H1 c1 f1 z1 c2 f2 z2
      obtain ⟨z1, c1, f1⟩ := H2.box 0 rfl
      obtain ⟨z2, c2, f2⟩ := H2.box 1 rfl
      have H3 := (H2.alloc [byteVal (u8 num)] 5).row_made (size := 1) (n := 1) 0 rfl rfl (by decide)
      rw [byteVal_u8 (by omega) (by omega)] at H3
      clear H2
      replace H3 := Lib.hid H3
      go_wp2_with fail
      go_loopg [7, 9, 27] n (fun g bv _ i wr => ∃ j : Nat, j ≤ n ∧ g = n - j ∧ i = .int .i64 j ∧ St w none0 wr [rowA 1 bv (j + 1) ((bytesF num (l.take j)).map byteVal), cellA (w.heap.size + 1) [.int .i64 0, .string ⟨#[]⟩], cellA w.heap.size [.int .i64 num, .slice a n cap]])
      case atStart => exact ⟨0, by omega, by omega, rfl, by have := H3.out; simpa [bytesF, byteVal_u8 (show 0 ≤ num by omega) (show num ≤ 255 by omega)] using this⟩
      case round =>
        obtain ⟨bv, hbv⟩ : ∃ v, v = u7 := ⟨_, rfl⟩
        subst hbv
        obtain ⟨j, hj, hg, rfl, hst⟩ := hrel
        obtain ⟨ab, cb, rfl, _⟩ := St.slice (by omega) 0 hst rfl
        clear c1 f1 z1 c2 f2 z2 H3
        by_cases hlt : j < n
        · have hjl : j < l.length := by have := hl.out; omega
          obtain ⟨b, off, rfl, hb, e0⟩ := ints_at (h.out.below hst.below) hjl
          obtain ⟨x1, x2⟩ := k5.out l[j] (List.getElem_mem hjl)
          have hnx : (bytesF num (l.take j)).map byteVal ++ [.int .u8 l[j]] = (bytesF num (l.take (j + 1))).map byteVal := by
            unfold bytesF
            rw [List.take_succ_eq_append_getElem hjl]
            simp only [List.map_cons, List.map_append, List.map_nil, List.cons_append, byteVal_u8 x1 x2]
          generalize l[j] = x at *
          replace hst := Lib.hid hst; replace hnx := Lib.hid hnx
          go_wp2_with (at_builtin; (refine wpList_appS rfl (.tmp 31) (.tmp 34) _ rfl 5 i0 _ 1 1 Try.underlying142 hi hz hz1 hz2 rfl (by omega) 0 _ (j + 1) _ rfl hst.out rfl 1 1 [.int .u8 x] rfl rfl (by simp [Value.oneCell']) (by omega) (by omega) ?_; intro wv5 w5 H6; rw [hnx.out] at H6; replace H6 := Lib.hid H6))
          go_roundg (n - (j + 1))
          case measure => omega
          case rel => exact ⟨j + 1, by omega, rfl, by go_num, H6.out⟩
        · obtain rfl : j = n := by omega
          rw [List.take_of_length_le (by have := hl.out; omega)] at hst
          have hlen : (bytesF num l).length = j + 1 := by simp [bytesF, hl.out]
          have hstr := run_str (P := Try.prog) 0 _ _ _ Try.underlying142 Try.underlying5 Try.underlying9 _ (bytesF num l) (j + 1) hlen.symm (hst.row 0 rfl)
          rw [hv.out] at hstr
          obtain ⟨z1, c1, f1⟩ := hst.box 1 rfl
          have H8 := hst.front 1 rfl
          have H9 := ((((H8).set 0 rfl 0 (.int .i64 kind) (by simp))).set 0 rfl 1 (.string v) (by simp))
          clear H8
          replace hst := Lib.hid hst; replace H9 := Lib.hid H9
          go_wp2_with fail
          exact bodyPost_ret (v := .tuple #[.agg #[.int .i64 kind, .string v], .int .i64 0]) (by simp [results, Try.results50, go_sem, c1, z1]; try rfl) rfl (Ret.mk rfl H9.out.below)
    · have q : (ck != 0) = true := by simp [hc]
      simp only [if_neg hc]
      clear hck h
      replace H0 := Lib.hid H0; replace PC := Lib.hid PC; replace hc := Lib.hid hc
      go_enter Try.func50, Try.ntmps50
      go_wp2_with fail
      refine Calls.mono (PK _) ?_
      rintro e w1 ⟨rfl, hb1⟩
      have H1 := H0.out.thru hb1
      obtain ⟨z1, c1, f1⟩ := H1.box 0 rfl
      obtain ⟨z2, c2, f2⟩ := H1.box 1 rfl
      have P2 := PC.out w1 H1.below
      clear H0 PC
      replace H1 := Lib.hid H1
      go_wp2_with fail
      refine Calls.mono P2 ?_
      rintro e w2 ⟨rfl, hb2⟩
      have H2 := H1.out.thru hb2
      clear P2 H1 c1 f1 z1 c2 f2 z2
      obtain ⟨z1, c1, f1⟩ := H2.box 0 rfl
      have H3 := ((((H2).set 0 rfl 0 (.int .i64 0) (by simp))).set 0 rfl 1 (.string ⟨#[]⟩) (by simp))
      replace H2 := Lib.hid H2; replace H3 := Lib.hid H3
      go_wp2_with fail
      exact bodyPost_ret (v := .tuple #[.agg #[.int .i64 0, .string ⟨#[]⟩], .int .i64 ck]) (by simp [results, Try.results50, go_sem, c1, z1]; try rfl) rfl (Ret.mk rfl H3.out.below)
end Go.Proofs.Ytljgmephajocaaa.Feat
