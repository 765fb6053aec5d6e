/- Plain: what heard notes is what came, within the window. -/
import Derived.Test.YtfdijoaclpnccaaHeardTold
namespace Go.Proofs.Ytfdijoaclpnccaa.Heard
set_option linter.unusedSimpArgs false
set_option linter.unusedVariables false
open Go Go.RowKit Go.Proofs.Ytfdijoaclpnccaa Go.Proofs.Ytfdijoaclpnccaa.Circ
attribute [local irreducible] Calls

theorem ofC_ofC (n : Int) : ofC (ofC n) = ofC n := by unfold ofC; omega
theorem far_small (f : Int) (a b : Nat) (ha : a ≤ 255) (hb : b ≤ 255) : farC (ofC (f + a)) (ofC (f + b)) = (a : Int) - b := by unfold farC ofC; omega
theorem getD_set (l : List Bool) (i j : Nat) (v : Bool) : (l.set i v).getD j false = if i = j ∧ i < l.length then v else l.getD j false := by
  simp only [List.getD_eq_getElem?_getD, List.getElem?_set]
  by_cases h : i = j
  · subst h
    by_cases h2 : i < l.length
    · simp [h2]
    · simp [h2]
  · simp [h]
theorem sh_getD {m n k : Nat} {c : List Bool} {i : Nat} (h : k < m) : (sh m n c i).getD k false = if n ≤ k ∧ k < n + i then c.getD (k - n) false else false := by
  rw [List.getD_eq_getElem?_getD, sh_at h]
  rfl
/-- What is known of a hearer to which so many came. -/
structure Inv (f : Int) (N : Nat) (h : Hd) (cb : List Bool) : Prop where
  newest : h.newest = ofC (f + N)
  most : N ≤ 255
  len : h.came.length = min (N + 1) 128
  came : ∀ k, k < h.came.length → h.came.getD k false = cb.getD (N - k) false
  all : cb.length = 256
  none : ∀ q, N < q → cb.getD q false = false
theorem Inv.le {f : Int} {N : Nat} {h : Hd} {cb : List Bool} (i : Inv f N h cb) : h.came.length ≤ 128 := by rw [i.len]; omega
def freshB (N n : Nat) (cb : List Bool) : Bool := !cb.getD n false && decide ((N : Int) - n < 128)
theorem inv_start (f : Int) : Inv f 0 ⟨ofC f, [true], 0, 0⟩ ((List.replicate 256 false).set 0 true) where
  newest := by simp
  most := by omega
  len := rfl
  came := by
    intro k hk
    obtain rfl : k = 0 := by simp only [List.length_cons, List.length_nil] at hk; omega
    rfl
  all := by rw [List.length_set, List.length_replicate]
  none := by
    intro q hq
    rw [getD_set, if_neg (by omega)]
    simp only [List.getD_eq_getElem?_getD, List.getElem?_replicate]
    split <;> rfl
theorem got_step {f : Int} {N n : Nat} {h : Hd} {cb : List Bool} (i : Inv f N h cb) (hn : n ≤ 255) (hu : 0 ≤ h.untold) :
    (gotH h (ofC (f + n))).2 = freshB N n cb ∧ Inv f (max N n) (gotH h (ofC (f + n))).1 (cb.set n (cb.getD n false || freshB N n cb)) ∧ 0 ≤ (gotH h (ofC (f + n))).1.untold ∧ (gotH h (ofC (f + n))).1.untold ≤ h.untold + 1 := by
  have hN := i.most
  have hlen := i.len
  have hall := i.all
  have far1 : farC (ofC (f + n)) h.newest = (n : Int) - N := by rw [i.newest]; exact far_small f n N hn hN
  have far2 : farC h.newest (ofC (f + n)) = (N : Int) - n := by rw [i.newest]; exact far_small f N n hN hn
  by_cases hgt : N < n
  · -- the newest
    have e0 : cb.getD n false = false := i.none n hgt
    have fr : freshB N n cb = true := by
      unfold freshB
      rw [e0, decide_eq_true (by omega)]
      rfl
    obtain ⟨m, hm⟩ : ∃ m, m = most h.came.length (n - N) := ⟨_, rfl⟩
    have hm1 : m = min (n + 1) 128 := by rw [hm, hlen]; unfold Heard.most; omega
    have eg : gotH h (ofC (f + n)) = (⟨ofC (f + n), (sh m (n - N) h.came h.came.length).set 0 true, h.untold + 1, h.ticks⟩, true) := by
      unfold gotH
      rw [if_pos (by rw [far1]; omega), far1, show ((n : Int) - N).toNat = n - N by omega]
      unfold moveH
      rw [← hm, ofC_ofC]
      have far3 := far_small f n n hn hn
      rw [Int.sub_self] at far3
      unfold restH backB
      simp only [far3, sh_len]
      rw [if_pos (decide_eq_true ⟨by omega, by omega⟩), if_neg]
      · rfl
      · show ¬ List.getD _ 0 false = true
        rw [sh_getD (by omega), if_neg (by omega)]
        simp
    rw [eg, fr, e0]
    refine ⟨rfl, ?_, by simp only; omega, by simp only; omega⟩
    have hmax : max N n = n := by omega
    rw [hmax]
    refine ⟨rfl, hn, by simp only [List.length_set, sh_len]; exact hm1, ?_, by simp [hall], ?_⟩
    · intro k hk
      simp only [List.length_set, sh_len] at hk
      simp only [Bool.or_true]
      rw [getD_set, getD_set, sh_len]
      by_cases hk0 : 0 = k
      · rw [if_pos ⟨hk0, by omega⟩, if_pos ⟨by omega, by omega⟩]
      · rw [if_neg (by omega), if_neg (by omega), sh_getD hk]
        by_cases hin : n - N ≤ k ∧ k < n - N + h.came.length
        · rw [if_pos hin, i.came _ (by omega), show N - (k - (n - N)) = n - k by omega]
        · rw [if_neg hin, i.none _ (by omega)]
    · intro q hq
      rw [getD_set, if_neg (by omega)]
      exact i.none q (by omega)
  · have hmax : max N n = N := by omega
    rw [hmax]
    have eg : gotH h (ofC (f + n)) = restH h (ofC (f + n)) := by
      unfold gotH
      rw [if_neg (by rw [far1]; omega)]
    have set_same : ∀ v, v = cb.getD n false → cb.set n v = cb := by
      intro v hv
      apply List.ext_getElem?
      intro q
      rw [List.getElem?_set]
      by_cases e : n = q
      · subst e
        rw [if_pos rfl, if_pos (by omega), hv, List.getD_eq_getElem?_getD, List.getElem?_eq_getElem (by omega)]
        rfl
      · rw [if_neg e]
    rw [eg]
    unfold restH backB
    simp only [far2]
    by_cases hw : (N : Int) - n < 128
    · rw [if_pos (decide_eq_true ⟨by omega, by omega⟩), show ((N : Int) - n).toNat = N - n by omega]
      have ec : h.came.getD (N - n) false = cb.getD n false := by rw [i.came _ (by omega), show N - (N - n) = n by omega]
      rw [ec]
      cases hc : cb.getD n false with
      | true =>
        have fr : freshB N n cb = false := by unfold freshB; rw [hc]; rfl
        rw [fr, if_pos rfl, set_same _ (by rw [hc]; rfl)]
        exact ⟨rfl, i, hu, by simp only; omega⟩
      | false =>
        have fr : freshB N n cb = true := by unfold freshB; rw [hc, decide_eq_true hw]; rfl
        rw [fr, if_neg (by simp)]
        refine ⟨rfl, ?_, by simp only; omega, by simp only; omega⟩
        refine ⟨i.newest, hN, by simp only [List.length_set]; exact hlen, ?_, by simp [hall], ?_⟩
        · intro k hk
          simp only [List.length_set] at hk
          simp only [Bool.or_true]
          rw [getD_set, getD_set]
          by_cases hk0 : N - n = k
          · rw [if_pos ⟨hk0, by omega⟩, if_pos ⟨by omega, by omega⟩]
          · rw [if_neg (by omega), if_neg (by omega), i.came k hk]
        · intro q hq
          rw [getD_set, if_neg (by omega)]
          exact i.none q (by omega)
    · rw [if_neg (by simp only [decide_eq_true_eq]; omega)]
      have fr : freshB N n cb = false := by unfold freshB; rw [decide_eq_false hw]; simp
      rw [fr, set_same _ (by simp)]
      exact ⟨rfl, i, hu, by simp only; omega⟩
theorem told_states (l : List Bool) : Avec.statesL (Avec.ofL (toldL l)) = toldL l := by
  rw [(Avec.fine_of _).2]
  unfold toldL
  rw [List.map_map]
  apply List.map_congr_left
  intro b _
  cases b <;> rfl
/-- What is told of one. -/
def sayI (N n : Nat) (cb : List Bool) : Int := if decide (n ≤ N) && decide ((N : Int) - n < 128) then toldB (cb.getD n false) else 3
theorem say_zero (N n : Nat) (cb : List Bool) : (sayI N n cb == 0) = ((decide (n ≤ N) && decide ((N : Int) - n < 128)) && cb.getD n false) := by
  unfold sayI
  cases (decide (n ≤ N) && decide ((N : Int) - n < 128)) with
  | false => rfl
  | true =>
    cases cb.getD n false <;> rfl
theorem told_at {f : Int} {N n : Nat} {h : Hd} {cb : List Bool} (i : Inv f N h cb) (hn : n ≤ 255) :
    (∀ j (hj : j < (Avec.statesL (Avec.ofL (toldL h.came))).length), ofC (h.newest - j) = ofC (ofC (f + n)) → sayI N n cb = (Avec.statesL (Avec.ofL (toldL h.came)))[j]) ∧
    ((∀ j, j < (Avec.statesL (Avec.ofL (toldL h.came))).length → ofC (h.newest - j) ≠ ofC (ofC (f + n))) → sayI N n cb = 3) := by
  have hN := i.most
  have hlen := i.len
  have htl : (toldL h.came).length = h.came.length := by simp [toldL]
  have hiff : ∀ j : Nat, j < h.came.length → (ofC (h.newest - j) = ofC (ofC (f + n)) ↔ j + n = N) := by
    intro j hj
    rw [i.newest]
    unfold ofC
    omega
  constructor
  · intro j hj he
    simp only [told_states] at hj ⊢
    rw [htl] at hj
    have := (hiff j hj).1 he
    unfold sayI
    rw [if_pos (by simp; omega)]
    have e := i.came j hj
    rw [show N - j = n by omega] at e
    rw [← e, List.getD_eq_getElem?_getD, List.getElem?_eq_getElem hj]
    simp [toldL]
  · intro hno
    simp only [told_states, htl] at hno
    unfold sayI
    by_cases hin : n ≤ N ∧ (N : Int) - n < 128
    · exact absurd ((hiff (N - n) (by omega)).2 (by omega)) (hno (N - n) (by omega))
    · rw [if_neg (by simp; omega)]
theorem freshB_val (N n : Nat) (cb : List Bool) : freshB N n cb = (!cb.getD n false && decide ((N : Int) - n < 128)) := rfl
end Go.Proofs.Ytfdijoaclpnccaa.Heard
