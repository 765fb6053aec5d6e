/- The walk of the statement OptsBack. -/
import Derived.Test.YtljgmephajocaaaOptsGets
namespace Go.Proofs.Ytljgmephajocaaa.Opts
set_option linter.unusedSimpArgs false
set_option linter.unusedVariables false
open Go Go.RowKit Go.Shelf Go.Proofs.Ytljgmephajocaaa
attribute [local irreducible] Calls

theorem u8_toNat {n : Int} (h0 : 0 ≤ n) (h : n ≤ 255) : (u8 n).toNat = n.toNat := by
  have := u8_nat h0 h
  omega
theorem rd1_put {x : El} (hx : badO x = 0) (rest : List UInt8) : ∃ k t, putB x ++ rest = k :: t ∧ rd1 (k :: t) = (x, rest, 0) := by
  obtain ⟨k1, k2, k3, k4⟩ := badO_ok hx
  obtain ⟨n, v⟩ := x
  simp only at k1 k2 k3 k4
  have hu := u8_toNat (n := n) (by omega) k2
  unfold putB
  by_cases h31 : n ≤ 31
  · have hv : v = ⟨#[]⟩ := by
      apply arr_ext
      have : v.data.toList.length = v.size := by simp
      rw [k3 h31] at this
      rw [List.eq_nil_of_length_eq_zero this]
    subst hv
    refine ⟨u8 n, rest, by simp only [if_pos h31]; rfl, ?_⟩
    unfold rd1
    simp only
    rw [if_pos (by omega), hu]
    congr 2
    omega
  · have hu2 := u8_toNat (n := 2 + (v.size : Int)) (by omega) (by omega)
    refine ⟨u8 n, u8 (2 + v.size) :: (v.data.toList ++ rest), by simp only [if_neg h31]; rfl, ?_⟩
    have hvl : v.data.toList.length = v.size := by simp
    unfold rd1
    simp only
    rw [if_neg (by omega), hu2, if_neg (by omega), if_neg (by simp; omega), hu]
    have e2 : (2 + (v.size : Int)).toNat - 2 = v.data.toList.length := by omega
    rw [e2, List.take_left, List.drop_left]
    congr 2
    · omega
theorem walk_zero (z : Nat) : ∀ (f : Nat) (told : List El), z ≤ f → walkF (fun _ => true) f told (List.replicate z 0) = (told, 0) := by
  induction z with
  | zero => intro f told _; exact walkF_nil _ _ _
  | succ z ih =>
    intro f told hf
    obtain ⟨f', rfl⟩ : ∃ f', f = f' + 1 := ⟨f - 1, by omega⟩
    rw [List.replicate_succ]
    have e : rd1 (0 :: List.replicate z 0) = ((0, ⟨#[]⟩), List.replicate z 0, 0) := rfl
    simp only [walkF, e]
    exact ih f' told (by omega)
theorem walk_put : ∀ (l : List El) (told : List El) (f z : Nat), (∀ x ∈ l, badO x = 0) → (putAll l).length + z ≤ f → walkF (fun _ => true) f told (putAll l ++ List.replicate z 0) = (told ++ l, 0)
  | [], told, f, z, _, hf => by
    have : putAll [] = [] := rfl
    rw [this, List.nil_append, List.append_nil]
    exact walk_zero z f told (by rw [this] at hf; simpa using hf)
  | x :: l, told, f, z, hl, hf => by
    have hx := hl x (List.mem_cons_self ..)
    have e : putAll (x :: l) = putB x ++ putAll l := rfl
    rw [e, List.append_assoc]
    rw [e, List.length_append, putB_len] at hf
    have hp := szO_pos x
    obtain ⟨k, t, e1, e2⟩ := rd1_put hx (putAll l ++ List.replicate z 0)
    obtain ⟨f', rfl⟩ : ∃ f', f = f' + 1 := ⟨f - 1, by omega⟩
    rw [e1]
    simp only [walkF, e2]
    have hk := (badO_ok hx).1
    rw [if_neg (by simp), if_neg (by omega)]
    simp only [if_true]
    rw [walk_put l _ f' z (fun y hy => hl y (List.mem_cons_of_mem _ hy)) (by omega), List.append_assoc]
    rfl
theorem read_put {l : List El} (h : checkL l = 0) : readL (putL l) = (l, 0) := by
  obtain ⟨hf, _, _⟩ := checkL_ok h
  unfold readL putL
  rw [walk_put l [] _ _ (firstBad_ok hf) (by simp), List.nil_append]
theorem getE_put {l : List El} (h : checkL l = 0) : getE (putL l) = 0 := by unfold getE; rw [read_put h]; simpa using h
theorem got_put {l : List El} (h : checkL l = 0) : got (putL l) = l := by unfold got; rw [if_pos (getE_put h), read_put h]
theorem putL_len {l : List El} (h : checkL l = 0) : (putL l).length ≤ 403 ∧ (putL l).length % 4 = 0 := by
  obtain ⟨_, _, h4⟩ := checkL_ok h
  unfold putL
  rw [List.length_append, List.length_replicate, putAll_len]
  have := pad_done (szL l)
  have h3 : padN (szL l) ≤ 3 := by unfold padN; omega
  omega
theorem getE_ok {l : List UInt8} (h : getE l = 0) : checkL (got l) = 0 := by
  unfold got
  rw [if_pos h]
  unfold getE at h
  split at h
  · exact h
  · omega
theorem got_no {l : List UInt8} (h : getE l ≠ 0) : got l = [] := by unfold got; rw [if_neg h]

theorem els_in {w : World} {a : Option Addr} {len cap : Nat} (h : Fits w (.slice 2 (.cons 1 (.int .i64) (.cons 1 .str .nil))) [.slice a len cap]) :
    len ≤ maxLen ∧ (a = none → len = 0) ∧ ∃ l : List El, l.length = len ∧ (∀ x ∈ l, isI64 x.1 ∧ x.2.size ≤ maxLen) ∧ Rd w a (encs l) :=
  rows_in (size := 2) enc (by omega) enc_len (fun cs hf _ => by
    obtain ⟨_, _, rfl, f0, r0⟩ := fits_cons1 hf
    obtain ⟨_, _, rfl, f1, r1⟩ := fits_cons1 r0
    obtain ⟨n, rfl, wn⟩ := fits_int f0
    obtain ⟨s, rfl, ws⟩ := fits_str f1
    obtain rfl : _ = [] := r1
    exact ⟨(n, s), rfl, bounds_i64 wn, ws⟩) h
def bigO (l : List El) : Bool := decide (60 < l.length) || l.any fun x => decide (600 < x.2.size)
theorem big_no {l : List El} (h : bigO l = false) : l.length ≤ 60 ∧ ∀ x ∈ l, x.2.size ≤ 600 := by
  unfold bigO at h
  simp only [Bool.or_eq_false_iff, decide_eq_false_iff_not, List.any_eq_false] at h
  exact ⟨by omega, fun o ho => by have := h.2 o ho; simp at this; omega⟩
set_option maxRecDepth 100000 in
set_option maxHeartbeats 400000 in
theorem great_any (L : List El) (n : Nat) (hl : L.length = n) (hn : n ≤ maxLen) (hgood : ∀ o ∈ L, o.2.size ≤ maxLen) (a : Option Addr) (cap : Nat) (w : World) (h : Rd w a (encs L)) :
    Calls Try.prog 37 #[.slice a n cap] w (Ret w (.bool (bigO L))) := by
  unfold maxLen at hn
  replace h := Lib.hid h; replace hl := Lib.hid hl; replace hgood := Lib.hid hgood
  go_enter Try.func37, Try.ntmps37
  go_wp2_with fail
  go_loopg [3] n (fun g i wr => ∃ j : Nat, j ≤ n ∧ g = n - j ∧ i = .int .i64 j ∧ j ≤ 60 ∧ Below w.heap.size w wr ∧ Hid (∀ i (hi : i < L.length), i < j → L[i].2.size ≤ 600))
  case atStart => exact ⟨0, by omega, by omega, rfl, by omega, (by repeat (first | with_reducible exact Below.refl _ _ | (with_reducible refine Below.al ?_) | (with_reducible refine Below.drew ?_) | (with_reducible refine Below.set ?_ (by first | (simp; done) | omega | (simp; omega))) | (with_reducible refine Below.thru ?_ (by assumption)) | (with_reducible refine Below.chg ?_ (by assumption) (by first | (simp; done) | omega | (simp; omega))))), fun i _ h => by omega⟩
  case round =>
    obtain ⟨j, hj, hg, rfl, h4, hbw, hno⟩ := hrel
    by_cases hlt : j < n
    · have hjl : j < L.length := by have := hl.out; omega
      obtain ⟨b, off, rfl, hb, hc⟩ := els_at (h.out.below hbw) hl.out (by omega)
      obtain ⟨_, e1⟩ := hc j hjl
      have hs := hgood.out L[j] (List.getElem_mem hjl)
      unfold maxLen at hs
      have hbig : 600 < L[j].2.size → bigO L = true := fun h => by
        unfold bigO
        rw [Bool.or_eq_true]
        exact .inr (List.any_eq_true.2 ⟨L[j], List.getElem_mem hjl, decide_eq_true h⟩)
      have hbig2 : j = 60 → bigO L = true := fun h => by
        unfold bigO
        rw [decide_eq_true (show 60 < L.length by omega)]
        rfl
      have hnx : L[j].2.size ≤ 600 → ∀ i (hi : i < L.length), i < j + 1 → L[i].2.size ≤ 600 := fun h i hi h1 => by
        by_cases e : i = j
        · subst e; exact h
        · exact hno.out i hi (by omega)
      clear hc hno
      generalize L[j] = y at *
      obtain ⟨k, v⟩ := y
      simp only at e1 hs hbig hnx
      by_cases h60 : j = 60
      · have q : decide ((60 : Int) ≤ (j : Int)) = true := decide_eq_true (by omega)
        replace hbig2 := Lib.hid (hbig2 h60)
        clear hbig hnx h60
        go_wp2_with fail
        go_ret
        exact Ret.mk (by rw [hbig2.out]; rfl) (by repeat (first | with_reducible exact Below.refl _ _ | (with_reducible refine Below.al ?_) | (with_reducible refine Below.drew ?_) | (with_reducible refine Below.set ?_ (by first | (simp; done) | omega | (simp; omega))) | (with_reducible refine Below.thru ?_ (by assumption)) | (with_reducible refine Below.chg ?_ (by assumption) (by first | (simp; done) | omega | (simp; omega)))))
      · have q : decide ((60 : Int) ≤ (j : Int)) = false := decide_eq_false (by omega)
        by_cases hv : 600 < v.size
        · have q2 : decide ((600 : Int) < (v.size : Int)) = true := decide_eq_true (by omega)
          replace hbig := Lib.hid (hbig hv)
          clear hbig2 hnx h60
          go_wp2_with fail
          go_ret
          exact Ret.mk (by rw [hbig.out]; rfl) (by repeat (first | with_reducible exact Below.refl _ _ | (with_reducible refine Below.al ?_) | (with_reducible refine Below.drew ?_) | (with_reducible refine Below.set ?_ (by first | (simp; done) | omega | (simp; omega))) | (with_reducible refine Below.thru ?_ (by assumption)) | (with_reducible refine Below.chg ?_ (by assumption) (by first | (simp; done) | omega | (simp; omega)))))
        · have q2 : decide ((600 : Int) < (v.size : Int)) = false := decide_eq_false (by omega)
          replace hnx := Lib.hid (hnx (by omega))
          clear hbig hbig2
          go_wp2_with fail
          go_roundg (n - (j + 1))
          case measure => omega
          case rel => exact ⟨j + 1, by omega, rfl, by go_num, by omega, (by repeat (first | with_reducible exact Below.refl _ _ | (with_reducible refine Below.al ?_) | (with_reducible refine Below.drew ?_) | (with_reducible refine Below.set ?_ (by first | (simp; done) | omega | (simp; omega))) | (with_reducible refine Below.thru ?_ (by assumption)) | (with_reducible refine Below.chg ?_ (by assumption) (by first | (simp; done) | omega | (simp; omega))))), hnx.out⟩
    · obtain rfl : j = n := by omega
      have hb : bigO L = false := by
        unfold bigO
        rw [decide_eq_false (by have := hl.out; omega), Bool.false_or, List.any_eq_false]
        intro x hx
        obtain ⟨i, hi, rfl⟩ := List.getElem_of_mem hx
        have := hno.out i hi (by have := hl.out; omega)
        simp
        omega
      replace hb := Lib.hid hb
      clear hno
      go_wp2_with fail
      go_ret
      exact Ret.mk (by rw [hb.out]; rfl) (by repeat (first | with_reducible exact Below.refl _ _ | (with_reducible refine Below.al ?_) | (with_reducible refine Below.drew ?_) | (with_reducible refine Below.set ?_ (by first | (simp; done) | omega | (simp; omega))) | (with_reducible refine Below.thru ?_ (by assumption)) | (with_reducible refine Below.chg ?_ (by assumption) (by first | (simp; done) | omega | (simp; omega)))))
end Go.Proofs.Ytljgmephajocaaa.Opts
