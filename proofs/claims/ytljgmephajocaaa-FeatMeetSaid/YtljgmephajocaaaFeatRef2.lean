/- The walks of feat's answer: Put, Get. -/
import Derived.Test.YtljgmephajocaaaFeatRef
namespace Go.Proofs.Ytljgmephajocaaa.Feat
set_option linter.unusedSimpArgs false
set_option linter.unusedVariables false
open Go Go.RowKit Go.Shelf Go.Proofs.Ytljgmephajocaaa
open Go.Proofs.Ytljgmephajocaaa.Opts (u8 u8_nat arr_ext str_emp)
attribute [local irreducible] Calls

theorem bytes_step {num : Int} {l : List Int} {j : Nat} (hj : j < l.length) : (ByteArray.mk (bytesF num (l.take j)).toArray) ++ ⟨#[u8 l[j]]⟩ = ⟨(bytesF num (l.take (j + 1))).toArray⟩ := by
  apply arr_ext
  unfold bytesF
  rw [List.take_succ_eq_append_getElem hj]
  simp only [ByteArray.data_append, Array.toList_append, List.map_append, List.map_cons, List.map_nil]
  rfl
set_option maxRecDepth 100000 in
set_option maxHeartbeats 1600000 in
theorem rput_any (kind num : Int) (l : List Int) (n : Nat) (hl : l.length = n) (hn : n ≤ 1000000) (a : Option Addr) (cap : Nat) (w : World) (h : Rd w a (i64s l)) :
    Calls Try.prog 51 #[.int .i64 kind, .agg #[.int .i64 num, .slice a n cap]] w (Ret w (.tuple #[.agg #[.int .i64 (putO kind num l).1, .string (putO kind num l).2], .int .i64 (putE kind num l)])) := by
  have PC := fun W hW => rcheck_any num l n hl hn a cap W (h.below hW)
  have H0 := ((St.zero w).alloc [.int .i64 num, .slice a n cap] 88).alloc [.int .i64 0, .string ⟨#[]⟩] 73
  simp only [World.size_alloc] at H0
  unfold putO putE
  by_cases h1 : kind < 32
  · have q1 : decide (kind < 32) = true := decide_eq_true h1
    have hk : kindB kind = false := by unfold kindB; rw [decide_eq_false (show ¬ 32 ≤ kind by omega)]; rfl
    simp only [hk, Bool.false_eq_true, if_false, show ¬ (7 : Int) = 0 by omega]
    clear PC h hk
    have H2 := ((((H0).set 0 rfl 0 (.int .i64 0) (by simp))).set 0 rfl 1 (.string ⟨#[]⟩) (by simp))
    replace H0 := Lib.hid H0; replace H2 := Lib.hid H2
    go_enter Try.func51, Try.ntmps51
    go_wp2_with fail
    exact bodyPost_ret (v := .tuple #[.agg #[.int .i64 0, .string ⟨#[]⟩], .int .i64 7]) (by simp [results, Try.results51, go_sem]; try rfl) rfl (Ret.mk rfl (by repeat (first | with_reducible exact Below.refl _ _ | (with_reducible refine Below.al ?_) | (with_reducible refine Below.drew ?_) | (with_reducible refine Below.set ?_ (by first | (simp; done) | omega | (simp; omega))) | (with_reducible refine Below.thru ?_ (by assumption)) | (with_reducible refine Below.chg ?_ (by assumption) (by first | (simp; done) | omega | (simp; omega))))))
  · have q1 : decide (kind < 32) = false := decide_eq_false h1
    by_cases h2 : 35 < kind
    · have q2 : decide (35 < kind) = true := decide_eq_true h2
      have hk : kindB kind = false := by unfold kindB; rw [decide_eq_false (show ¬ kind ≤ 35 by omega), Bool.and_false]
      simp only [hk, Bool.false_eq_true, if_false, show ¬ (7 : Int) = 0 by omega]
      clear PC h hk
      have H2 := ((((H0).set 0 rfl 0 (.int .i64 0) (by simp))).set 0 rfl 1 (.string ⟨#[]⟩) (by simp))
      replace H0 := Lib.hid H0; replace H2 := Lib.hid H2
      go_enter Try.func51, Try.ntmps51
      go_wp2_with fail
      exact bodyPost_ret (v := .tuple #[.agg #[.int .i64 0, .string ⟨#[]⟩], .int .i64 7]) (by simp [results, Try.results51, go_sem]; try rfl) rfl (Ret.mk rfl (by repeat (first | with_reducible exact Below.refl _ _ | (with_reducible refine Below.al ?_) | (with_reducible refine Below.drew ?_) | (with_reducible refine Below.set ?_ (by first | (simp; done) | omega | (simp; omega))) | (with_reducible refine Below.thru ?_ (by assumption)) | (with_reducible refine Below.chg ?_ (by assumption) (by first | (simp; done) | omega | (simp; omega))))))
    · have q2 : decide (35 < kind) = false := decide_eq_false h2
      have hk : kindB kind = true := by unfold kindB; rw [decide_eq_true (show 32 ≤ kind by omega), decide_eq_true (show kind ≤ 35 by omega)]; rfl
      simp only [hk, if_true]
      obtain ⟨ck, hck⟩ : ∃ ck, checkF num l = ck := ⟨_, rfl⟩
      rw [hck] at PC
      simp only [hck]
      clear hk
      by_cases hc : ck = 0
      · subst hc
        simp only [if_true]
        obtain ⟨k1, k2, k3, k4, k5⟩ := checkF_ok hck
        clear hck
        obtain ⟨v, hv⟩ : ∃ v, (ByteArray.mk (bytesF num l).toArray) = v := ⟨_, rfl⟩
        rw [hv]
        obtain ⟨nc, rfl⟩ : ∃ nc : Nat, num = (nc : Int) := ⟨num.toNat, by omega⟩
        have hnc : nc < 256 := by omega
        have P2 := PC _ H0.below
        clear PC
        replace H0 := Lib.hid H0; replace h := Lib.hid h; replace hl := Lib.hid hl; replace k5 := Lib.hid k5; replace hv := Lib.hid hv
        go_enter Try.func51, Try.ntmps51
        go_wp2_with fail
        refine Calls.mono P2 ?_
        rintro e w2 ⟨rfl, hb2⟩
        have H2 := H0.out.thru hb2
        clear P2 H0
        obtain ⟨z1, c1, f1⟩ := H2.box 0 rfl
        obtain ⟨z2, c2, f2⟩ := H2.box 1 rfl
        have E1 := H2.alloc [.int .u8 (nc : Int)] 5
        have hstr := run_byte (P := Try.prog) _ _ _ Try.underlying142 Try.underlying5 Try.underlying9 hnc (E1.box 0 rfl)
        have hs0 : (⟨#[UInt8.ofNat nc]⟩ : ByteArray) = ⟨(bytesF (nc : Int) (l.take 0)).toArray⟩ := rfl
        rw [hs0] at hstr
        have H3 := E1.drop 0 rfl
        clear E1 H2 hs0
        replace H3 := Lib.hid H3
        go_wp2_with fail
        go_loopg [7, 8] n (fun g sv i wr => ∃ j : Nat, j ≤ n ∧ g = n - j ∧ i = .int .i64 j ∧ sv = .string ⟨(bytesF (nc : Int) (l.take j)).toArray⟩ ∧ St w none0 wr [cellA (w.heap.size + 1) [.int .i64 0, .string ⟨#[]⟩], cellA w.heap.size [.int .i64 (nc : Int), .slice a n cap]])
        case atStart => exact ⟨0, by omega, by omega, rfl, rfl, H3.out⟩
        case round =>
          obtain ⟨j, hj, hg, rfl, rfl, hst⟩ := hrel
          clear c1 f1 z1 c2 f2 z2 H3 hstr
          obtain ⟨z1, c1, f1⟩ := hst.box 0 rfl
          obtain ⟨z2, c2, f2⟩ := hst.box 1 rfl
          by_cases hlt : j < n
          · have hjl : j < l.length := by have := hl.out; omega
            obtain ⟨b, off, rfl, hb, e0⟩ := ints_at (h.out.below hst.below) hjl
            obtain ⟨x1, x2⟩ := k5.out l[j] (List.getElem_mem hjl)
            have hcat := bytes_step (num := (nc : Int)) hjl
            have hsz : (ByteArray.mk (bytesF (nc : Int) (l.take j)).toArray).size ≤ 1000 := by simp only [ByteArray.size, bytesF]; simp; omega
            obtain ⟨c, hcx⟩ : ∃ c : Nat, l[j] = (c : Int) := ⟨l[j].toNat, by omega⟩
            rw [hcx] at e0 hcat
            have hc256 : c < 256 := by omega
            have E2 := hst.alloc [.int .u8 (c : Int)] 5
            have hstr := run_byte (P := Try.prog) _ _ _ Try.underlying142 Try.underlying5 Try.underlying9 hc256 (E2.box 0 rfl)
            have hu : (⟨#[UInt8.ofNat c]⟩ : ByteArray) = ⟨#[u8 (c : Int)]⟩ := rfl
            rw [hu] at hstr
            have hsz2 : (⟨#[u8 (c : Int)]⟩ : ByteArray).size = 1 := rfl
            generalize u8 (c : Int) = bc at *
            have H4 := E2.drop 0 rfl
            clear E2 hu x1 x2 hcx
            generalize ByteArray.mk (bytesF (nc : Int) (l.take j)).toArray = S1 at *
            replace hst := Lib.hid hst; replace hcat := Lib.hid hcat; replace H4 := Lib.hid H4
            go_wp2_with fail
            go_roundg (n - (j + 1))
            case measure => omega
            case rel => exact ⟨j + 1, by omega, rfl, by go_num, by rw [hcat.out], H4.out⟩
          · obtain rfl : j = n := by omega
            rw [List.take_of_length_le (by have := hl.out; omega), hv.out]
            have H9 := ((((hst).set 0 rfl 0 (.int .i64 kind) (by simp))).set 0 rfl 1 (.string v) (by simp))
            replace hst := Lib.hid hst; replace H9 := Lib.hid H9
            go_wp2_with fail
            exact bodyPost_ret (v := .tuple #[.agg #[.int .i64 kind, .string v], .int .i64 0]) (by simp [results, Try.results51, go_sem, c1, z1]; try rfl) rfl (Ret.mk rfl H9.out.below)
      · have q : (ck != 0) = true := by simp [hc]
        simp only [if_neg hc]
        have P2 := PC _ H0.below
        clear hck h PC
        replace H0 := Lib.hid H0; replace hc := Lib.hid hc
        go_enter Try.func51, Try.ntmps51
        go_wp2_with fail
        refine Calls.mono P2 ?_
        rintro e w2 ⟨rfl, hb2⟩
        have H2 := H0.out.thru hb2
        clear P2 H0
        obtain ⟨z1, c1, f1⟩ := H2.box 0 rfl
        have H3 := ((((H2).set 0 rfl 0 (.int .i64 0) (by simp))).set 0 rfl 1 (.string ⟨#[]⟩) (by simp))
        replace H2 := Lib.hid H2; replace H3 := Lib.hid H3
        go_wp2_with fail
        exact bodyPost_ret (v := .tuple #[.agg #[.int .i64 0, .string ⟨#[]⟩], .int .i64 ck]) (by simp [results, Try.results51, go_sem, c1, z1]; try rfl) rfl (Ret.mk rfl H3.out.below)
end Go.Proofs.Ytljgmephajocaaa.Feat
