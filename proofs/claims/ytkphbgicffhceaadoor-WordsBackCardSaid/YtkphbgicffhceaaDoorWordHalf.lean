/- The walks of bytes in writing: half, value; what bytes in writing come to. -/
import Derived.Test.YtkphbgicffhceaaDoorWordHex
namespace Go.Proofs.YtkphbgicffhceaaDoor.Words
set_option linter.unusedSimpArgs false
set_option linter.unusedVariables false
open Go Go.RowKit Go.Proofs.YtkphbgicffhceaaDoor
attribute [local irreducible] Calls

def hvN (c : Nat) : Option Nat := if 48 ≤ c ∧ c ≤ 57 then some (c - 48) else if 97 ≤ c ∧ c ≤ 102 then some (c - 87) else none
theorem hv_dig {c x : Nat} (h : hvN c = some x) : x < 16 ∧ digN x = c := by
  unfold hvN at h
  split at h
  · obtain rfl := Option.some.inj h; unfold digN; split <;> omega
  · split at h
    · obtain rfl := Option.some.inj h; unfold digN; split <;> omega
    · cases h
theorem dig_hv {x : Nat} (h : x < 16) : hvN (digN x) = some x := by
  unfold hvN digN
  split
  · rw [if_pos (by omega)]; congr 1; omega
  · rw [if_neg (by omega), if_pos (by omega)]; congr 1; omega
theorem half_any (c : Nat) (h : c < 256) (w : World) : Calls Tryd.prog 25 #[.int .u8 c] w (Ret w (.tuple #[.int .u8 ((hvN c).getD 0 : Nat), .bool (hvN c).isSome])) := by
  unfold hvN
  by_cases h1 : c < 48
  · have q1 : decide ((48 : Int) ≤ (c : Int)) = false := decide_eq_false (by omega)
    have q2 : decide ((97 : Int) ≤ (c : Int)) = false := decide_eq_false (by omega)
    rw [if_neg (by omega), if_neg (by omega)]
    go_enter Tryd.func25, Tryd.ntmps25
    go_wp2_with fail
    go_ret2
    exact Ret.mk rfl (by repeat (first | with_reducible exact Below.refl _ _ | (with_reducible refine Below.al ?_) | (with_reducible refine Below.drew ?_) | (with_reducible refine Below.set ?_ (by first | (simp; done) | omega | (simp; omega))) | (with_reducible refine Below.thru ?_ (by assumption)) | (with_reducible refine Below.chg ?_ (by assumption) (by first | (simp; done) | omega | (simp; omega)))))
  · have q1 : decide ((48 : Int) ≤ (c : Int)) = true := decide_eq_true (by omega)
    by_cases h2 : c ≤ 57
    · have q2 : decide ((c : Int) ≤ 57) = true := decide_eq_true (by omega)
      rw [if_pos (by omega)]
      go_enter Tryd.func25, Tryd.ntmps25
      go_wp2_with fail
      go_ret2
      exact Ret.mk (by simp only [Option.getD_some, Option.isSome_some]; rw [show ((c - 48 : Nat) : Int) = (c : Int) - 48 by omega]; rfl) (by repeat (first | with_reducible exact Below.refl _ _ | (with_reducible refine Below.al ?_) | (with_reducible refine Below.drew ?_) | (with_reducible refine Below.set ?_ (by first | (simp; done) | omega | (simp; omega))) | (with_reducible refine Below.thru ?_ (by assumption)) | (with_reducible refine Below.chg ?_ (by assumption) (by first | (simp; done) | omega | (simp; omega)))))
    · have q2 : decide ((c : Int) ≤ 57) = false := decide_eq_false (by omega)
      rw [if_neg (by omega)]
      by_cases h3 : c < 97
      · have q3 : decide ((97 : Int) ≤ (c : Int)) = false := decide_eq_false (by omega)
        rw [if_neg (by omega)]
        go_enter Tryd.func25, Tryd.ntmps25
        go_wp2_with fail
        go_ret2
        exact Ret.mk rfl (by repeat (first | with_reducible exact Below.refl _ _ | (with_reducible refine Below.al ?_) | (with_reducible refine Below.drew ?_) | (with_reducible refine Below.set ?_ (by first | (simp; done) | omega | (simp; omega))) | (with_reducible refine Below.thru ?_ (by assumption)) | (with_reducible refine Below.chg ?_ (by assumption) (by first | (simp; done) | omega | (simp; omega)))))
      · have q3 : decide ((97 : Int) ≤ (c : Int)) = true := decide_eq_true (by omega)
        by_cases h4 : c ≤ 102
        · have q4 : decide ((c : Int) ≤ 102) = true := decide_eq_true (by omega)
          rw [if_pos (by omega)]
          go_enter Tryd.func25, Tryd.ntmps25
          go_wp2_with fail
          go_ret2
          exact Ret.mk (by simp only [Option.getD_some, Option.isSome_some]; rw [show ((c - 87 : Nat) : Int) = (c : Int) - 97 + 10 by omega]; rfl) (by repeat (first | with_reducible exact Below.refl _ _ | (with_reducible refine Below.al ?_) | (with_reducible refine Below.drew ?_) | (with_reducible refine Below.set ?_ (by first | (simp; done) | omega | (simp; omega))) | (with_reducible refine Below.thru ?_ (by assumption)) | (with_reducible refine Below.chg ?_ (by assumption) (by first | (simp; done) | omega | (simp; omega)))))
        · have q4 : decide ((c : Int) ≤ 102) = false := decide_eq_false (by omega)
          rw [if_neg (by omega)]
          go_enter Tryd.func25, Tryd.ntmps25
          go_wp2_with fail
          go_ret2
          exact Ret.mk rfl (by repeat (first | with_reducible exact Below.refl _ _ | (with_reducible refine Below.al ?_) | (with_reducible refine Below.drew ?_) | (with_reducible refine Below.set ?_ (by first | (simp; done) | omega | (simp; omega))) | (with_reducible refine Below.thru ?_ (by assumption)) | (with_reducible refine Below.chg ?_ (by assumption) (by first | (simp; done) | omega | (simp; omega)))))
def hvI (c : Nat) : Int := match hvN c with | some x => (x : Int) | none => -1
theorem dig_at : ∀ n : _root_.Fin 16, (digitsS[n.val]'n.isLt).toNat = digN n.val := by decide +kernel
set_option maxRecDepth 100000 in
theorem value_any (c : Nat) (h : c < 256) (w : World) : Calls Tryd.prog 26 #[.int .u8 c] w (Ret w (.int .i64 (hvI c))) := by
  obtain ⟨v, hv⟩ : ∃ v, v = hvI c := ⟨_, rfl⟩
  rw [← hv]
  replace hv := Lib.hid hv
  go_enter Tryd.func26, Tryd.ntmps26
  go_wp2_with fail
  go_loopg [3] 16 (fun g i wr => ∃ (j : Nat), j ≤ 16 ∧ Hid (g = 16 - j) ∧ i = .int .i64 j ∧ Hid (∀ q, q < j → digN q ≠ c) ∧ Below w.heap.size w wr)
  case atStart => exact ⟨0, by omega, Lib.hid rfl, rfl, Lib.hid (fun q hq => by omega), (by repeat (first | with_reducible exact Below.refl _ _ | (with_reducible refine Below.al ?_) | (with_reducible refine Below.drew ?_) | (with_reducible refine Below.set ?_ (by first | (simp; done) | omega | (simp; omega))) | (with_reducible refine Below.thru ?_ (by assumption)) | (with_reducible refine Below.chg ?_ (by assumption) (by first | (simp; done) | omega | (simp; omega)))))⟩
  case round =>
    obtain ⟨j, hj, hg, rfl, hno, hbw⟩ := hrel
    by_cases hlt : j < 16
    · have q : decide ((j : Int) < 16) = true := decide_eq_true (by omega)
      have hat := dig_at ⟨j, hlt⟩
      simp only at hat
      unfold digitsS at hat
      by_cases he : digN j = c
      · have hvj : v = (j : Int) := by rw [hv.out]; unfold hvI; rw [← he, dig_hv hlt]
        rw [he] at hat
        have k : ((c : Int) == (c : Int)) = true := by simp
        clear hv he hno
        subst hvj
        go_wp2_with fail
        go_ret
        exact Ret.mk rfl (by repeat (first | with_reducible exact Below.refl _ _ | (with_reducible refine Below.al ?_) | (with_reducible refine Below.drew ?_) | (with_reducible refine Below.set ?_ (by first | (simp; done) | omega | (simp; omega))) | (with_reducible refine Below.thru ?_ (by assumption)) | (with_reducible refine Below.chg ?_ (by assumption) (by first | (simp; done) | omega | (simp; omega)))))
      · have k : ((digN j : Int) == (c : Int)) = false := by simp; omega
        have hno' : ∀ q, q < j + 1 → digN q ≠ c := fun q hq => by
          by_cases e : q = j
          · subst e; exact he
          · exact hno.out q (by omega)
        clear he hno
        replace hno' := Lib.hid hno'
        go_wp2_with fail
        go_roundg (16 - (j + 1))
        case measure => have := hg.out; omega
        case rel => exact ⟨j + 1, by omega, Lib.hid rfl, by go_num, hno', (by repeat (first | with_reducible exact Below.refl _ _ | (with_reducible refine Below.al ?_) | (with_reducible refine Below.drew ?_) | (with_reducible refine Below.set ?_ (by first | (simp; done) | omega | (simp; omega))) | (with_reducible refine Below.thru ?_ (by assumption)) | (with_reducible refine Below.chg ?_ (by assumption) (by first | (simp; done) | omega | (simp; omega)))))⟩
    · obtain rfl : j = 16 := by omega
      have hvj : v = -1 := by
        rw [hv.out]
        unfold hvI
        cases hc : hvN c with
        | none => rfl
        | some x => exact absurd (hv_dig hc).2 (hno.out x (hv_dig hc).1)
      clear hv hno
      subst hvj
      go_wp2_with fail
      go_ret
      exact Ret.mk rfl (by repeat (first | with_reducible exact Below.refl _ _ | (with_reducible refine Below.al ?_) | (with_reducible refine Below.drew ?_) | (with_reducible refine Below.set ?_ (by first | (simp; done) | omega | (simp; omega))) | (with_reducible refine Below.thru ?_ (by assumption)) | (with_reducible refine Below.chg ?_ (by assumption) (by first | (simp; done) | omega | (simp; omega)))))

/-- The bytes that halves come to. -/
def bytesF : List UInt8 → Option (List UInt8)
  | [] => some []
  | [_] => none
  | a :: b :: t => match hvN a.toNat, hvN b.toNat with
    | some x, some y => (bytesF t).map (UInt8.ofNat (16 * x + y) :: ·)
    | _, _ => none
def bytesV (l : List UInt8) : List UInt8 × Bool :=
  if l = [45] then ([], true) else if l = [] ∨ l.length % 2 ≠ 0 then ([], false) else ((bytesF l).getD [], (bytesF l).isSome)
theorem bytesF_app : ∀ (a b : List UInt8), a.length % 2 = 0 → bytesF (a ++ b) = (bytesF a).bind fun r => (bytesF b).map (r ++ ·)
  | [], b, _ => by
    show bytesF b = (some ([] : List UInt8)).bind fun r => (bytesF b).map (r ++ ·)
    rw [Option.bind_some]
    cases bytesF b <;> rfl
  | [x], b, h => by simp at h
  | x :: y :: a, b, h => by
    have ih := bytesF_app a b (by simp only [List.length_cons] at h; omega)
    show bytesF (x :: y :: (a ++ b)) = _
    simp only [bytesF]
    rw [ih]
    cases hvN x.toNat with
    | none => rfl
    | some x1 =>
      cases hvN y.toNat with
      | none => rfl
      | some y1 =>
        simp only
        cases bytesF a with
        | none => rfl
        | some r => cases bytesF b <;> rfl
theorem bytesF_len : ∀ (l r : List UInt8), bytesF l = some r → l.length = 2 * r.length
  | [], r, h => by obtain rfl := Option.some.inj h; rfl
  | [x], r, h => by cases h
  | x :: y :: t, r, h => by
    simp only [bytesF] at h
    split at h
    · obtain ⟨r', hr', rfl⟩ := Option.map_eq_some_iff.1 h
      have := bytesF_len t r' hr'
      simp only [List.length_cons]
      omega
    · cases h
theorem take_two {l : List UInt8} {k : Nat} (h : 2 * k + 1 < l.length) : l.take (2 * (k + 1)) = l.take (2 * k) ++ [l[2 * k], l[2 * k + 1]] := by
  rw [show 2 * (k + 1) = 2 * k + 1 + 1 by omega, List.take_succ_eq_append_getElem h, List.take_succ_eq_append_getElem (show 2 * k < l.length by omega), List.append_assoc]
  rfl
theorem bytes_step {l r : List UInt8} {k : Nat} (h : 2 * k + 1 < l.length) (hr : bytesF (l.take (2 * k)) = some r) {x y : Nat} (hx : hvN (l[2 * k]).toNat = some x) (hy : hvN (l[2 * k + 1]).toNat = some y) :
    bytesF (l.take (2 * (k + 1))) = some (r ++ [UInt8.ofNat (16 * x + y)]) := by
  rw [take_two h, bytesF_app _ _ (by rw [List.length_take]; omega), hr]
  simp only [Option.bind_some, bytesF, hx, hy, Option.map_some]
theorem bytes_bad {l r : List UInt8} {k : Nat} (h : 2 * k + 1 < l.length) (hr : bytesF (l.take (2 * k)) = some r) (hx : hvN (l[2 * k]).toNat = none ∨ hvN (l[2 * k + 1]).toNat = none) : bytesF l = none := by
  have e : l = l.take (2 * k) ++ ([l[2 * k], l[2 * k + 1]] ++ l.drop (2 * (k + 1))) := by
    rw [← List.append_assoc, ← take_two h, List.take_append_drop]
  rw [e, bytesF_app _ _ (by rw [List.length_take]; omega), hr, bytesF_app _ _ (by simp)]
  simp only [Option.bind_some, bytesF]
  rcases hx with hx | hx
  · rw [hx]; rfl
  · rw [hx]
    cases hvN (l[2 * k]).toNat <;> rfl
end Go.Proofs.YtkphbgicffhceaaDoor.Words
