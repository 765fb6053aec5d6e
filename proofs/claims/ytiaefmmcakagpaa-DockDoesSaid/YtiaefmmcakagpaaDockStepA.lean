/- The steps of the dock, as the statement asks for them, in the form of the answer's. -/
import Derived.Test.YtiaefmmcakagpaaDockRefD
import Derived.Test.YtiaefmmcakagpaaDockWorks
import Derived.Test.YtiaefmmcakagpaaDockSweepInt
import Derived.Test.YtiaefmmcakagpaaRest
namespace Go.Proofs.Ytiaefmmcakagpaa.DockLaw
set_option linter.unusedSimpArgs false
set_option linter.unusedVariables false
open Go Go.RowKit Go.Proofs.Ytiaefmmcakagpaa Go.Proofs.Ytiaefmmcakagpaa.DockSInt Go.Proofs.Ytiaefmmcakagpaa.DockRef
attribute [local irreducible] Calls

theorem outs_pure (p : Int → Bool) : ∀ (l pre : List El), outs (fun _ => p) pre l = l.filter p
  | [], _ => rfl
  | x :: l, pre => by
    rw [outs, outs_pure p l, List.filter_cons]
    split <;> rfl
theorem rests_pure (p : Int → Bool) : ∀ (l pre : List El), rests (fun _ => p) pre l = l.filter fun x => !p x
  | [], _ => rfl
  | x :: l, pre => by
    rw [rests, rests_pure p l, List.filter_cons]
    cases p x <;> rfl
section
variable {W w : World} {S0 : Nat → Prop} {r : List Asn}
theorem spill_st (d : Nat) (most x : Int) (l : List Int) (hl : l.length ≤ 100000) (hlm : (l.length : Int) ≤ most) (H : St W S0 w (dockA d most l :: r)) :
    Calls Try.prog 50 #[.pointer (some ⟨d, 0, none⟩), .int .i64 x] w (fun e w' => e = .returned (.tuple #[.int .i64 (spillD most x l).1.1, .bool (spillD most x l).1.2]) ∧ St W S0 w' (dockA d most (spillD most x l).2 :: r)) := by
  unfold spillD
  by_cases h0 : most = 0
  · subst h0
    rw [if_pos rfl]
    exact Calls.mono (Calls.rd_at 0 H rfl fun S h => spill_zero d l x _ S h) fun e w' h => h
  · rw [if_neg h0]
    by_cases hlt : (l.length : Int) < most
    · rw [if_pos hlt]
      exact Calls.mono (Calls.st_at 0 H rfl fun S h => spill_room d most l x _ S h hl hlt) fun e w' h => h
    · rw [if_neg hlt]
      cases l with
      | nil => simp at hlt hlm; omega
      | cons y l =>
        simp only [List.length_cons] at hl
        exact Calls.mono (Calls.st_at 0 H rfl fun S h => spill_full d most y l x _ S h (by omega) hlt h0) fun e w' h => h
/-- What Pull comes to. -/
def pullD (l : List Int) : Int × Bool := (l.headD 0, !l.isEmpty)
theorem pull_st (d : Nat) (most : Int) (l : List Int) (H : St W S0 w (dockA d most l :: r)) :
    Calls Try.prog 53 #[.pointer (some ⟨d, 0, none⟩)] w (fun e w' => e = .returned (.tuple #[.int .i64 (pullD l).1, .bool (pullD l).2]) ∧ St W S0 w' (dockA d most (l.drop 1) :: r)) := by
  cases l with
  | nil => exact Calls.mono (Calls.rd_at 0 H rfl fun S h => pull_nil d most _ S h) fun e w' h => h
  | cons x l => exact Calls.mono (Calls.st_at 0 H rfl fun S h => pull_cons d most x l _ S h) fun e w' h => h
theorem rpull_st (d : Nat) (most : Int) (l : List Int) (hl : l.length ≤ 100000) (H : St W S0 w (refD d most l :: r)) :
    Calls Try.prog 54 #[.pointer (some ⟨d, 0, none⟩)] w (fun e w' => e = .returned (.tuple #[.int .i64 (pullD l).1, .bool (pullD l).2]) ∧ St W S0 w' (refD d most (l.drop 1) :: r)) := by
  cases l with
  | nil => exact rpull_nil d most H
  | cons x l => exact rpull_cons d most x l (by simp only [List.length_cons] at hl; omega) H
theorem above_any (b : Nat) (k x n y : Int) (w : World) (z : b < w.heap.size) (c : w.cell? ⟨b, 2, none⟩ = some (.int .i64 n)) :
    Calls Try.prog 56 #[.int .i64 y, .pointer (some ⟨b, 0, none⟩)] w (Ret w (.bool (decide (n < y)))) := by
  go_enter Try.func56, Try.ntmps56
  go_wp2_with fail
  go_ret
  exact Ret.mk rfl (by repeat (first | with_reducible exact Below.refl _ _ | (with_reducible refine Below.al ?_) | (with_reducible refine Below.drew ?_) | (with_reducible refine Below.set ?_ (by first | (simp; done) | omega | (simp; omega))) | (with_reducible refine Below.thru ?_ (by assumption)) | (with_reducible refine Below.chg ?_ (by assumption) (by first | (simp; done) | omega | (simp; omega)))))
theorem below_any (b : Nat) (k x n y : Int) (w : World) (S : Nat → Prop) (h : (cellA b [.int .i64 k, .int .i64 x, .int .i64 n]).holds w S) :
    Calls Try.prog 59 #[.int .i64 y, .pointer (some ⟨b, 0, none⟩)] w (Fin w S (.bool (decide (y < n))) [cellA b [.int .i64 k, .int .i64 x, .int .i64 n]]) := by
  have H := St.start (Sep.one h)
  obtain ⟨z, c, f⟩ := H.box 0 rfl
  have c2 := c 2
  clear h c f
  replace H := Lib.hid H
  go_enter Try.func59, Try.ntmps59
  go_wp2_with fail
  go_ret
  exact ⟨rfl, H.out⟩
theorem place_full (d : Nat) (most : Int) (l : List El) (x : Int) (q : Value) (w : World) (S : Nat → Prop) (h : (dockA d most l).holds w S) (hlt : ¬ (l.length : Int) < most) :
    Calls Try.prog 55 #[.pointer (some ⟨d, 0, none⟩), .int .i64 x, q] w (Ret w (.bool false)) := by
  have P1 := full_any d most l w S h
  rw [decide_eq_true (by omega : most ≤ (l.length : Int))] at P1
  clear h
  replace P1 := Lib.hid P1
  go_enter Try.func55, Try.ntmps55
  go_wp2_with fail
  refine Calls.mono (P1.out) ?_
  rintro e w1 ⟨rfl, hb1⟩
  have z1 := Below.size hb1; try simp only [World.size_alloc, World.size_setCell, World.size_drew] at z1
  clear P1
  go_wp2_with fail
  go_ret
  exact Ret.mk rfl (by repeat (first | with_reducible exact Below.refl _ _ | (with_reducible refine Below.al ?_) | (with_reducible refine Below.drew ?_) | (with_reducible refine Below.set ?_ (by first | (simp; done) | omega | (simp; omega))) | (with_reducible refine Below.thru ?_ (by assumption)) | (with_reducible refine Below.chg ?_ (by assumption) (by first | (simp; done) | omega | (simp; omega)))))
theorem place_st (d b : Nat) (most k x x' n : Int) (l : List Int) (hl : l.length ≤ 100000) (H : St W S0 w (dockA d most l :: cellA b [.int .i64 k, .int .i64 x, .int .i64 n] :: r)) :
    Calls Try.prog 55 #[.pointer (some ⟨d, 0, none⟩), .int .i64 x', .func (.func 56) #[] #[.pointer (some ⟨b, 0, none⟩)]] w (fun e w' => e = .returned (.bool (decide ((l.length : Int) < most))) ∧ St W S0 w' (dockA d most (if (l.length : Int) < most then placed (fun y => decide (n < y)) x' l else l) :: cellA b [.int .i64 k, .int .i64 x, .int .i64 n] :: r)) := by
  by_cases hlt : (l.length : Int) < most
  · rw [if_pos hlt, decide_eq_true hlt]
    obtain ⟨z, c, f⟩ := H.box 1 rfl
    exact Calls.mono (Calls.st_at 0 H rfl fun S h => place_any d most l x' _ S h hl hlt 56 #[.pointer (some ⟨b, 0, none⟩)] (enters_of Try.func56 (by kernel_rfl) rfl) (fun y => decide (n < y))
      (fun y w' hb => above_any b k x n y w' (Nat.lt_of_lt_of_le z hb.size) (((Below.blk hb z).1 2).trans (c 2)))) fun e w' h => h
  · rw [if_neg hlt, decide_eq_false hlt]
    exact Calls.mono (Calls.rd_at 0 H rfl fun S h => place_full d most l x' _ _ S h hlt) fun e w' h => h
theorem sweep_st (d b : Nat) (most k x n : Int) (l : List Int) (hl : l.length ≤ 100000) (H : St W S0 w (dockA d most l :: cellA b [.int .i64 k, .int .i64 x, .int .i64 n] :: r)) :
    Calls Try.prog 58 #[.pointer (some ⟨d, 0, none⟩), .func (.func 59) #[] #[.pointer (some ⟨b, 0, none⟩)]] w (fun e w' => ∃ v, e = .returned v ∧ St W S0 w' (rowA 1 v (l.filter fun y => decide (y < n)).length (i64s (l.filter fun y => decide (y < n))) :: dockA d most (l.filter fun y => !decide (y < n)) :: cellA b [.int .i64 k, .int .i64 x, .int .i64 n] :: r)) := by
  have HJ := St.join [_, _] r H
  obtain ⟨S8, h8, _, hback⟩ := HJ.at 0 rfl
  have P8 := sweep_any d most l hl 59 #[.pointer (some ⟨b, 0, none⟩)] (enters_of Try.func59 (by kernel_rfl) rfl) (fun _ y => decide (y < n)) (fun _ => cellA b [.int .i64 k, .int .i64 x, .int .i64 n])
    (fun pre y suf w S _ h => below_any b k x n y w S h) _ S8 h8
  rw [outs_pure, rests_pure, encs_i64s] at P8
  refine Calls.mono P8 ?_
  rintro e w' ⟨v, rfl, h⟩
  exact ⟨v, rfl, hback _ _ h⟩
end
end Go.Proofs.Ytiaefmmcakagpaa.DockLaw
