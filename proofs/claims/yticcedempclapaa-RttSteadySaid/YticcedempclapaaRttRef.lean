/- The walks of the document's answer for layer 18. -/
import Derived.Test.YticcedempclapaaRtt
namespace Go.Proofs.Yticcedempclapaa.Rtt
open Go.RowKit Go.Proofs.Yticcedempclapaa

theorem rlate_any (s v l : Int) (k : Bool) (w : World) (h0 : 0 ≤ l) (h1 : l ≤ 6) :
    Calls Try.prog 22 #[.agg #[.int .i64 s, .int .i64 v, .int .i64 l, .bool k]] w (Ret w (.agg #[.int .i64 s, .int .i64 v, .int .i64 (min (l + 1) 6), .bool k])) := by
  by_cases h : l < 6
  · have e : min (l + 1) 6 = l + 1 := by omega
    rw [e]
    clear e
    go_enter Try.func22, Try.ntmps22
    go_wp2
    exact bodyPost_ret (v := .agg #[.int .i64 s, .int .i64 v, .int .i64 (l + 1), .bool k]) (by simp [results, Try.results22, go_sem]) rfl (Ret.mk rfl (by repeat (first | with_reducible exact Below.refl _ _ | (with_reducible refine Below.al ?_) | (with_reducible refine Below.drew ?_) | (with_reducible refine Below.set ?_ (by first | (simp; done) | omega | (simp; omega))) | (with_reducible refine Below.thru ?_ (by assumption)))))
  · have e : min (l + 1) 6 = l := by omega
    rw [e]
    clear e
    go_enter Try.func22, Try.ntmps22
    go_wp2
    exact bodyPost_ret (v := .agg #[.int .i64 s, .int .i64 v, .int .i64 l, .bool k]) (by simp [results, Try.results22, go_sem]) rfl (Ret.mk rfl (by repeat (first | with_reducible exact Below.refl _ _ | (with_reducible refine Below.al ?_) | (with_reducible refine Below.drew ?_) | (with_reducible refine Below.set ?_ (by first | (simp; done) | omega | (simp; omega))) | (with_reducible refine Below.thru ?_ (by assumption)))))

theorem rtook_new (s v l t : Int) (w : World) :
    Calls Try.prog 24 #[.agg #[.int .i64 s, .int .i64 v, .int .i64 l, .bool false], .int .i64 t] w (Ret w (.agg #[.int .i64 (8 * clip t), .int .i64 (2 * clip t), .int .i64 0, .bool true])) := by
  have hc : (t < 1 ∧ clip t = 1) ∨ (1 ≤ t ∧ t ≤ 64 ∧ clip t = t) ∨ (64 < t ∧ clip t = 64) := by unfold clip; omega
  rcases hc with ⟨h, e⟩ | ⟨h, h', e⟩ | ⟨h, e⟩
  all_goals
    rw [e]
    clear e
    go_enter Try.func24, Try.ntmps24
    go_wp2
  · exact bodyPost_ret (v := .agg #[.int .i64 8, .int .i64 2, .int .i64 0, .bool true]) (by simp [results, Try.results24, go_sem]) rfl (Ret.mk rfl (by repeat (first | with_reducible exact Below.refl _ _ | (with_reducible refine Below.al ?_) | (with_reducible refine Below.drew ?_) | (with_reducible refine Below.set ?_ (by first | (simp; done) | omega | (simp; omega))) | (with_reducible refine Below.thru ?_ (by assumption)))))
  · exact bodyPost_ret (v := .agg #[.int .i64 (8 * t), .int .i64 (2 * t), .int .i64 0, .bool true]) (by simp [results, Try.results24, go_sem]) rfl (Ret.mk rfl (by repeat (first | with_reducible exact Below.refl _ _ | (with_reducible refine Below.al ?_) | (with_reducible refine Below.drew ?_) | (with_reducible refine Below.set ?_ (by first | (simp; done) | omega | (simp; omega))) | (with_reducible refine Below.thru ?_ (by assumption)))))
  · exact bodyPost_ret (v := .agg #[.int .i64 512, .int .i64 128, .int .i64 0, .bool true]) (by simp [results, Try.results24, go_sem]) rfl (Ret.mk rfl (by repeat (first | with_reducible exact Below.refl _ _ | (with_reducible refine Below.al ?_) | (with_reducible refine Below.drew ?_) | (with_reducible refine Below.set ?_ (by first | (simp; done) | omega | (simp; omega))) | (with_reducible refine Below.thru ?_ (by assumption)))))

theorem rtook_old (s v l t : Int) (w : World) (h0 : 0 ≤ s) (h1 : s ≤ 1000) (h2 : 0 ≤ v) (h3 : v ≤ 1000) :
    Calls Try.prog 24 #[.agg #[.int .i64 s, .int .i64 v, .int .i64 l, .bool true], .int .i64 t] w
      (Ret w (.agg #[.int .i64 (s + (clip t - s / 8)), .int .i64 (v + (max (clip t - s / 8) (-(clip t - s / 8)) - v / 4)), .int .i64 0, .bool true])) := by
  have hc : (t < 1 ∧ clip t = 1) ∨ (1 ≤ t ∧ t ≤ 64 ∧ clip t = t) ∨ (64 < t ∧ clip t = 64) := by unfold clip; omega
  rcases hc with ⟨h, e⟩ | ⟨h, h', e⟩ | ⟨h, e⟩
  all_goals
    rw [e]
    clear e
    first
      | (have hs : (1 : Int) - s / 8 < 0 ∨ 0 ≤ (1 : Int) - s / 8 := by omega)
    go_enter Try.func24, Try.ntmps24
    go_upto_region 9 with fail
  · generalize hD : (1 : Int) - s / 8 = d at *
    have hd : -130 ≤ d ∧ d ≤ 64 := by omega
    replace hD := Lib.hid hD
    rcases hs with hs | hs
    all_goals
      go_wp2_with fail
    · exact bodyPost_ret (v := .agg #[.int .i64 (s + d), .int .i64 (v + -d - v / 4), .int .i64 0, .bool true]) (by simp [results, Try.results24, go_sem]) rfl (Ret.mk (by simp; omega) (by repeat (first | with_reducible exact Below.refl _ _ | (with_reducible refine Below.al ?_) | (with_reducible refine Below.drew ?_) | (with_reducible refine Below.set ?_ (by first | (simp; done) | omega | (simp; omega))) | (with_reducible refine Below.thru ?_ (by assumption)))))
    · exact bodyPost_ret (v := .agg #[.int .i64 (s + d), .int .i64 (v + d - v / 4), .int .i64 0, .bool true]) (by simp [results, Try.results24, go_sem]) rfl (Ret.mk (by simp; omega) (by repeat (first | with_reducible exact Below.refl _ _ | (with_reducible refine Below.al ?_) | (with_reducible refine Below.drew ?_) | (with_reducible refine Below.set ?_ (by first | (simp; done) | omega | (simp; omega))) | (with_reducible refine Below.thru ?_ (by assumption)))))
  · clear hs
    have hs : t - s / 8 < 0 ∨ 0 ≤ t - s / 8 := by omega
    generalize hD : t - s / 8 = d at *
    have hd : -130 ≤ d ∧ d ≤ 64 := by omega
    replace hD := Lib.hid hD
    rcases hs with hs | hs
    all_goals
      go_wp2_with fail
    · exact bodyPost_ret (v := .agg #[.int .i64 (s + d), .int .i64 (v + -d - v / 4), .int .i64 0, .bool true]) (by simp [results, Try.results24, go_sem]) rfl (Ret.mk (by simp; omega) (by repeat (first | with_reducible exact Below.refl _ _ | (with_reducible refine Below.al ?_) | (with_reducible refine Below.drew ?_) | (with_reducible refine Below.set ?_ (by first | (simp; done) | omega | (simp; omega))) | (with_reducible refine Below.thru ?_ (by assumption)))))
    · exact bodyPost_ret (v := .agg #[.int .i64 (s + d), .int .i64 (v + d - v / 4), .int .i64 0, .bool true]) (by simp [results, Try.results24, go_sem]) rfl (Ret.mk (by simp; omega) (by repeat (first | with_reducible exact Below.refl _ _ | (with_reducible refine Below.al ?_) | (with_reducible refine Below.drew ?_) | (with_reducible refine Below.set ?_ (by first | (simp; done) | omega | (simp; omega))) | (with_reducible refine Below.thru ?_ (by assumption)))))
  · clear hs
    have hs : (64 : Int) - s / 8 < 0 ∨ 0 ≤ (64 : Int) - s / 8 := by omega
    generalize hD : (64 : Int) - s / 8 = d at *
    have hd : -130 ≤ d ∧ d ≤ 64 := by omega
    replace hD := Lib.hid hD
    rcases hs with hs | hs
    all_goals
      go_wp2_with fail
    · exact bodyPost_ret (v := .agg #[.int .i64 (s + d), .int .i64 (v + -d - v / 4), .int .i64 0, .bool true]) (by simp [results, Try.results24, go_sem]) rfl (Ret.mk (by simp; omega) (by repeat (first | with_reducible exact Below.refl _ _ | (with_reducible refine Below.al ?_) | (with_reducible refine Below.drew ?_) | (with_reducible refine Below.set ?_ (by first | (simp; done) | omega | (simp; omega))) | (with_reducible refine Below.thru ?_ (by assumption)))))
    · exact bodyPost_ret (v := .agg #[.int .i64 (s + d), .int .i64 (v + d - v / 4), .int .i64 0, .bool true]) (by simp [results, Try.results24, go_sem]) rfl (Ret.mk (by simp; omega) (by repeat (first | with_reducible exact Below.refl _ _ | (with_reducible refine Below.al ?_) | (with_reducible refine Below.drew ?_) | (with_reducible refine Below.set ?_ (by first | (simp; done) | omega | (simp; omega))) | (with_reducible refine Below.thru ?_ (by assumption)))))

theorem dbl (h : Int) (i : Nat) (h4 : 4 ≤ h) : min (2 * min (h * 2 ^ i) 64) 64 = min (h * 2 ^ (i + 1)) 64 := by
  rw [Int.pow_succ, ← Int.mul_assoc]
  omega
theorem dbl_bd (h : Int) (i : Nat) (h4 : 4 ≤ h) : 0 ≤ min (h * 2 ^ i) 64 ∧ min (h * 2 ^ i) 64 ≤ 64 := by
  have h1 : (0 : Int) < 2 ^ i := Int.pow_pos (by omega)
  have := Int.mul_nonneg (show 0 ≤ h by omega) (show (0 : Int) ≤ 2 ^ i by omega)
  omega

theorem rtimeout_new (s v : Int) (l : Nat) (w : World) (hl : l ≤ 6) :
    Calls Try.prog 29 #[.agg #[.int .i64 s, .int .i64 v, .int .i64 l, .bool false]] w (Ret w (.int .i64 (wait false s v l))) := by
  go_enter Try.func29, Try.ntmps29
  go_wp2_with fail
  have hh : 4 ≤ min (max (8 : Int) 4) 64 ∧ min (max (8 : Int) 4) 64 ≤ 64 := by omega
  generalize hH : min (max (8 : Int) 4) 64 = h at *
  replace hH := Lib.hid hH
  go_loopg [3, 4] l (fun g n i wx => (w.alloc (.cells #[.int .i64 s, .int .i64 v, .int .i64 l, .bool false] 38)) = wx ∧ ∃ i0 : Nat, n = .int .i64 (min (h * 2 ^ i0) 64) ∧ i = .int .i64 i0 ∧ g + i0 = l)
  case atStart => exact ⟨rfl, 0, by simp; omega, rfl, rfl⟩
  case round =>
    obtain ⟨rfl, i0, rfl, rfl, hg⟩ := hrel
    have hb := dbl_bd h i0 hh.1
    have hs := dbl h i0 hh.1
    generalize hM : min (h * 2 ^ i0) 64 = m at *
    replace hM := Lib.hid hM
    replace hs := Lib.hid hs
    by_cases hi : i0 < l
    · go_wp2_with fail
      go_roundg (l - (i0 + 1))
      case measure => omega
      case rel => exact ⟨rfl, i0 + 1, by rw [hs.out], by go_num, by omega⟩
    · obtain rfl : i0 = l := by omega
      go_wp2_with fail
      go_ret
      exact Ret.mk (by rw [← hM.out, ← hH.out]; simp [wait]) (by repeat (first | with_reducible exact Below.refl _ _ | (with_reducible refine Below.al ?_) | (with_reducible refine Below.drew ?_) | (with_reducible refine Below.set ?_ (by first | (simp; done) | omega | (simp; omega))) | (with_reducible refine Below.thru ?_ (by assumption))))

theorem rtimeout_old (s v : Int) (l : Nat) (w : World) (hl : l ≤ 6) (h0 : 0 ≤ s) (h1 : s ≤ 1000) (h2 : 0 < v) (h3 : v ≤ 1000) :
    Calls Try.prog 29 #[.agg #[.int .i64 s, .int .i64 v, .int .i64 l, .bool true]] w (Ret w (.int .i64 (wait true s v l))) := by
  have hv : (v == 0) = false := by simp; omega
  have e : wait true s v l = min (min (max (s / 8 + v) 4) 64 * 2 ^ l) 64 := by
    unfold wait
    rw [show max 1 v = v by omega]
    simp
  rw [e]
  clear e
  go_enter Try.func29, Try.ntmps29
  go_wp2_with fail
  have hh : 4 ≤ min (max (s / 8 + v : Int) 4) 64 ∧ min (max (s / 8 + v : Int) 4) 64 ≤ 64 := by omega
  generalize hH : min (max (s / 8 + v : Int) 4) 64 = h at *
  replace hH := Lib.hid hH
  go_loopg [3, 4] l (fun g n i wx => (w.alloc (.cells #[.int .i64 s, .int .i64 v, .int .i64 l, .bool true] 38)) = wx ∧ ∃ i0 : Nat, n = .int .i64 (min (h * 2 ^ i0) 64) ∧ i = .int .i64 i0 ∧ g + i0 = l)
  case atStart => exact ⟨rfl, 0, by simp; omega, rfl, rfl⟩
  case round =>
    obtain ⟨rfl, i0, rfl, rfl, hg⟩ := hrel
    have hb := dbl_bd h i0 hh.1
    have hs := dbl h i0 hh.1
    generalize hM : min (h * 2 ^ i0) 64 = m at *
    replace hM := Lib.hid hM
    replace hs := Lib.hid hs
    by_cases hi : i0 < l
    · go_wp2_with fail
      go_roundg (l - (i0 + 1))
      case measure => omega
      case rel => exact ⟨rfl, i0 + 1, by rw [hs.out], by go_num, by omega⟩
    · obtain rfl : i0 = l := by omega
      go_wp2_with fail
      go_ret
      exact Ret.mk (by rw [← hM.out, ← hH.out]; simp [wait]) (by repeat (first | with_reducible exact Below.refl _ _ | (with_reducible refine Below.al ?_) | (with_reducible refine Below.drew ?_) | (with_reducible refine Below.set ?_ (by first | (simp; done) | omega | (simp; omega))) | (with_reducible refine Below.thru ?_ (by assumption))))

theorem rtimeout_zero (s : Int) (l : Nat) (w : World) (hl : l ≤ 6) (h0 : 0 ≤ s) (h1 : s ≤ 1000) :
    Calls Try.prog 29 #[.agg #[.int .i64 s, .int .i64 0, .int .i64 l, .bool true]] w (Ret w (.int .i64 (wait true s 0 l))) := by
  have e : wait true s 0 l = min (min (max (s / 8 + 1) 4) 64 * 2 ^ l) 64 := by
    unfold wait
    rw [show max 1 (0 : Int) = 1 by omega]
    simp
  rw [e]
  clear e
  obtain ⟨v, hv⟩ : ∃ v : Int, v = 0 := ⟨_, rfl⟩
  have hv1 : (v == 0) = true := by simp [hv]
  have hv2 : ¬ 0 < v := by omega
  rw [← hv]
  replace hv := Lib.hid hv
  go_enter Try.func29, Try.ntmps29
  go_wp2_with fail
  have hh : 4 ≤ min (max (s / 8 + 1 : Int) 4) 64 ∧ min (max (s / 8 + 1 : Int) 4) 64 ≤ 64 := by omega
  generalize hH : min (max (s / 8 + 1 : Int) 4) 64 = h at *
  replace hH := Lib.hid hH
  go_loopg [3, 4] l (fun g n i wx => (w.alloc (.cells #[.int .i64 s, .int .i64 v, .int .i64 l, .bool true] 38)) = wx ∧ ∃ i0 : Nat, n = .int .i64 (min (h * 2 ^ i0) 64) ∧ i = .int .i64 i0 ∧ g + i0 = l)
  case atStart => exact ⟨rfl, 0, by simp; omega, rfl, rfl⟩
  case round =>
    obtain ⟨rfl, i0, rfl, rfl, hg⟩ := hrel
    have hb := dbl_bd h i0 hh.1
    have hs := dbl h i0 hh.1
    generalize hM : min (h * 2 ^ i0) 64 = m at *
    replace hM := Lib.hid hM
    replace hs := Lib.hid hs
    by_cases hi : i0 < l
    · go_wp2_with fail
      go_roundg (l - (i0 + 1))
      case measure => omega
      case rel => exact ⟨rfl, i0 + 1, by rw [hs.out], by go_num, by omega⟩
    · obtain rfl : i0 = l := by omega
      go_wp2_with fail
      go_ret
      exact Ret.mk (by rw [← hM.out, ← hH.out]; simp [wait]) (by repeat (first | with_reducible exact Below.refl _ _ | (with_reducible refine Below.al ?_) | (with_reducible refine Below.drew ?_) | (with_reducible refine Below.set ?_ (by first | (simp; done) | omega | (simp; omega))) | (with_reducible refine Below.thru ?_ (by assumption))))
end Go.Proofs.Yticcedempclapaa.Rtt
