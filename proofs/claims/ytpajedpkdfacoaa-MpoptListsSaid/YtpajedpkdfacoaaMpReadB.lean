/- The walk of bytes.read. -/
import Derived.Test.YtpajedpkdfacoaaMpRead
namespace Go.Proofs.Ytpajedpkdfacoaa.Mp
set_option linter.unusedSimpArgs false
set_option linter.unusedVariables false
open Go Go.RowKit Go.Shelf Go.Proofs.Ytpajedpkdfacoaa Go.Proofs.Ytpajedpkdfacoaa.Octets
attribute [local irreducible] Calls

/-- How many bytes are read. -/
def widest (left : Int) (z : List Int) (n : Int) : Int := z.foldl (fun n k => if k ≤ left then max n k else n) n
theorem widest_le (left : Int) : ∀ (z : List Int) (n : Int), (∀ k ∈ z, 0 ≤ k ∧ k ≤ 1000) → 0 ≤ n → n ≤ 1000 → 0 ≤ widest left z n ∧ widest left z n ≤ 1000
  | [], n, _, h0, h1 => ⟨h0, h1⟩
  | k :: z, n, hz, h0, h1 => by
    have := hz k (by simp)
    have ih := fun n' => widest_le left z n' (fun k' hk' => hz k' (by simp [hk']))
    unfold widest at ih ⊢
    rw [List.foldl_cons]
    split
    · exact ih _ (by omega) (by omega)
    · exact ih _ h0 h1
set_option maxRecDepth 100000 in
theorem bread_st {W w : World} {S0 : Nat → Prop} {r : List Asn} (m : Mu) (mb c q : Nat) (t : ByteArray) (at_ : Nat) (fell : Int) (hok : okCut t at_ fell) (z0 : Int) (z1 : List Int) (hz : ∀ k ∈ z0 :: z1, 0 ≤ k ∧ k ≤ 1000) (hzl : (z0 :: z1).length ≤ 1000) (H : St W S0 w (cellA mb (encM m) :: cellA c (cut t at_ fell) :: cellA q (i64s (z0 :: z1)) :: r)) :
    Calls Try.prog 170 #[.agg #[.slice (some ⟨q, 0, none⟩) (z0 :: z1).length (z0 :: z1).length], .pointer (some ⟨c, 0, none⟩), .pointer (some ⟨mb, 0, none⟩)] w
      (fun e w' => (∃ v, e = .returned v) ∧ St W S0 w' (cellA mb (encM { m with dat := bytesV t at_ fell (widest ((t.size : Int) - at_) (z0 :: z1) z0) }) :: cellA c (cut t (bytesA t at_ fell (widest ((t.size : Int) - at_) (z0 :: z1) z0)) (bytesF t at_ fell (widest ((t.size : Int) - at_) (z0 :: z1) z0))) :: cellA q (i64s (z0 :: z1)) :: r)) := by
  have H1 := H.alloc [.slice (some ⟨q, 0, none⟩) (z0 :: z1).length (z0 :: z1).length] 126
  obtain ⟨z, hzz⟩ : ∃ z, z = z0 :: z1 := ⟨_, rfl⟩
  have hz0 : 0 < z.length := by rw [hzz]; simp
  have hg0 : z[0] = z0 := by subst hzz; rfl
  rw [← hzz] at H1 hz hzl ⊢
  obtain ⟨zb, cb, fb⟩ := H1.box 0 rfl
  obtain ⟨zq, cq, fq⟩ := H1.box 3 rfl
  have eq0 := i64_at cq hz0
  rw [hg0] at eq0
  have hz0' : (0 : Int) < z.length := by omega
  have hb0 := hz z0 (by rw [hzz]; simp)
  obtain ⟨N, hN⟩ : ∃ N, N = widest ((t.size : Int) - at_) z z0 := ⟨_, rfl⟩
  rw [← hN]
  replace hN := Lib.hid hN
  clear H hzz hg0 cq
  replace H1 := Lib.hid H1; replace hok := Lib.hid hok; replace hz := Lib.hid hz; replace hb0 := Lib.hid hb0
  go_enter Try.func170, Try.ntmps170
  go_wp2_with fail
  go_loopg [6, 8, 16] z.length (fun g v6 _ v16 wr => ∃ (j : Nat) (n : Int), j ≤ z.length ∧ Hid (g = z.length - j) ∧ v16 = .int .i64 j ∧ v6 = .int .i64 n ∧ Hid (N = widest ((t.size : Int) - at_) (z.drop j) n) ∧ Hid (0 ≤ n ∧ n ≤ 1000) ∧ Hid (St W S0 wr (cellA w.heap.size [.slice (some ⟨q, 0, none⟩) z.length z.length] :: cellA mb (encM m) :: cellA c (cut t at_ fell) :: cellA q (i64s z) :: r)))
  case atStart => exact ⟨0, z0, by omega, Lib.hid rfl, rfl, rfl, hN, hb0, H1⟩
  case round =>
    obtain ⟨j, n, hj, hg, rfl, rfl, hwd, hn, hst⟩ := hrel
    clear H1 hN
    by_cases hlt : j < z.length
    · obtain ⟨zq2, cq2, fq2⟩ := hst.out.box 3 rfl
      have ej := i64_at cq2 hlt
      have hdr : z.drop j = z[j] :: z.drop (j + 1) := List.drop_eq_getElem_cons hlt
      have hk := hz.out z[j] (List.getElem_mem hlt)
      have hlt' : (j : Int) < z.length := by omega
      have P := left_any c t at_ fell wr (hst.out.box 2 rfl) hok.out
      have hw1 : N = widest ((t.size : Int) - at_) (z.drop (j + 1)) (if z[j] ≤ (t.size : Int) - at_ then max n z[j] else n) := by rw [hwd.out, hdr]; rfl
      clear hwd hdr cq2
      generalize z[j] = k at *
      by_cases hq : k ≤ (t.size : Int) - at_
      · have q : decide (k ≤ (t.size : Int) - at_) = true := decide_eq_true hq
        rw [if_pos hq] at hw1
        have hn2 : 0 ≤ max n k ∧ max n k ≤ 1000 := by have := hn.out; omega
        replace hw1 := Lib.hid hw1; replace hn2 := Lib.hid hn2; replace P := Lib.hid P; replace hk := Lib.hid hk; replace hq := Lib.hid hq
        go_wp2_with fail
        refine Calls.mono (P.out) ?_
        rintro e w5 ⟨rfl, hb5⟩
        have z5 := Below.size hb5; try simp only [World.size_alloc, World.size_setCell, World.size_drew] at z5
        have H3 := hst.out.thru hb5
        clear P hst
        replace H3 := Lib.hid H3
        go_wp2_with fail
        go_roundg (z.length - (j + 1))
        case measure => have := hg.out; omega
        case rel => exact ⟨j + 1, _, by omega, Lib.hid rfl, by go_num, rfl, hw1, hn2, H3⟩
      · have q : decide (k ≤ (t.size : Int) - at_) = false := decide_eq_false hq
        rw [if_neg hq] at hw1
        replace hw1 := Lib.hid hw1; replace P := Lib.hid P; replace hk := Lib.hid hk; replace hq := Lib.hid hq
        go_wp2_with fail
        refine Calls.mono (P.out) ?_
        rintro e w5 ⟨rfl, hb5⟩
        have z5 := Below.size hb5; try simp only [World.size_alloc, World.size_setCell, World.size_drew] at z5
        have H3 := hst.out.thru hb5
        clear P hst
        replace H3 := Lib.hid H3
        go_wp2_with fail
        go_roundg (z.length - (j + 1))
        case measure => have := hg.out; omega
        case rel => exact ⟨j + 1, _, by omega, Lib.hid rfl, by go_num, rfl, hw1, hn, H3⟩
    · have hj2 : z.drop j = [] := List.drop_of_length_le (by omega)
      rw [hj2] at hwd
      obtain rfl : N = n := hwd.out
      have hlt' : ¬ (j : Int) < z.length := by omega
      have P := bytes_any c t at_ fell N wr (hst.out.box 2 rfl) hok.out (by have := hn.out; omega)
      clear hwd hj2
      replace P := Lib.hid P
      go_wp2_with fail
      refine Calls.mono P.out ?_
      rintro e w4 h4
      obtain ⟨rfl, H4⟩ := St.ofC (hst.out.arrN [2, 0, 1] rfl) h4
      obtain ⟨zm4, cm4, fm4⟩ := H4.box 2 rfl
      have ci := cm4 6
      have H5 := H4.set 2 rfl 6 (.string (bytesV t at_ fell N)) (by rw [encM_len]; omega)
      clear P hst h4 cm4 H4
      replace H5 := Lib.hid H5
      go_wp2_with fail
      go_end0
      exact ⟨⟨_, rfl⟩, (H5.out.arrN [0, 1, 2] rfl).drop 2 rfl⟩
end Go.Proofs.Ytpajedpkdfacoaa.Mp
