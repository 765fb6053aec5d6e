
/- The walks of the package circ and of the document's answers for it: numbers that go round. -/
import Derived.Test.YtpajedpkdfacoaaRd
import Derived.Deep.LoopGhost
import Derived.Deep.DeepCutAuto
import Derived.Laws.BitsLemmas
namespace Go.Proofs.Ytpajedpkdfacoaa.Circ
set_option linter.unusedSimpArgs false
set_option linter.unusedVariables false
open Go Go.RowKit Go.Proofs.Ytpajedpkdfacoaa
attribute [local irreducible] Calls

def ofC (n : Int) : Int := n % 281474976710656
def farC (a b : Int) : Int := if 140737488355328 < (a - b) % 281474976710656 then (a - b) % 281474976710656 - 281474976710656 else (a - b) % 281474976710656
def lessC (a b : Int) : Bool := decide (farC a b < 0)
theorem ofC_bd (n : Int) : 0 ≤ ofC n ∧ ofC n < 281474976710656 := by unfold ofC; omega
theorem farC_bd (a b : Int) : -140737488355328 < farC a b ∧ farC a b ≤ 140737488355328 := by unfold farC; omega
theorem farC_of (a b : Int) : farC (ofC a) b = farC a b ∧ farC a (ofC b) = farC a b := by unfold farC ofC; omega

theorem and_mask (n : Int) : bits .and .i64 n 281474976710655 = n % 281474976710656 := by
  have h127 : (BitVec.ofInt 64 281474976710655).toNat = 2 ^ 48 - 1 := by decide
  have key : (BitVec.ofInt 64 n &&& BitVec.ofInt 64 281474976710655).toNat = (n % ((2 ^ 64 : Nat) : Int)).toNat % 2 ^ 48 := by
    rw [BitVec.toNat_and, BitVec.toNat_ofInt, h127, Nat.and_two_pow_sub_one_eq_mod]
  show IntKind.i64.wrap ((BitVec.ofInt 64 n &&& BitVec.ofInt 64 281474976710655).toNat : Nat) = n % 281474976710656
  rw [key, IntKind.wrap_i64]
  omega
attribute [local go_sem] and_mask

theorem of_any (n : Int) (w : World) : Calls Try.prog 93 #[.int .i64 n] w (Ret w (.int .i64 (ofC n))) := by
  go_enter Try.func93, Try.ntmps93
  go_wp2_with fail
  go_ret
  exact Ret.mk rfl (by repeat (first | with_reducible exact Below.refl _ _ | (with_reducible refine Below.al ?_) | (with_reducible refine Below.drew ?_) | (with_reducible refine Below.set ?_ (by first | (simp; done) | omega | (simp; omega))) | (with_reducible refine Below.thru ?_ (by assumption)) | (with_reducible refine Below.chg ?_ (by assumption) (by first | (simp; done) | omega | (simp; omega)))))
theorem up_any (a b : Int) (w : World) : Calls Try.prog 138 #[.int .i64 a, .int .i64 b] w (Ret w (.int .i64 ((b - a) % 281474976710656))) := by
  obtain ⟨a0, a1⟩ := ofC_bd a
  obtain ⟨b0, b1⟩ := ofC_bd b
  go_enter Try.func138, Try.ntmps138
  go_wp2_with fail
  refine Calls.mono (of_any _ _) ?_
  rintro e w1 ⟨rfl, hb1⟩
  have z1 := Below.size hb1; try simp only [World.size_alloc, World.size_setCell, World.size_drew] at z1
  go_wp2_with fail
  refine Calls.mono (of_any _ _) ?_
  rintro e w2 ⟨rfl, hb2⟩
  have z2 := Below.size hb2; try simp only [World.size_alloc, World.size_setCell, World.size_drew] at z2
  go_wp2_with fail
  go_ret
  exact Ret.mk (congrArg (Value.int .i64) (by unfold ofC; omega)) (by repeat (first | with_reducible exact Below.refl _ _ | (with_reducible refine Below.al ?_) | (with_reducible refine Below.drew ?_) | (with_reducible refine Below.set ?_ (by first | (simp; done) | omega | (simp; omega))) | (with_reducible refine Below.thru ?_ (by assumption)) | (with_reducible refine Below.chg ?_ (by assumption) (by first | (simp; done) | omega | (simp; omega)))))
theorem far_any (a b : Int) (w : World) : Calls Try.prog 121 #[.int .i64 a, .int .i64 b] w (Ret w (.int .i64 (farC a b))) := by
  have h0 : 0 ≤ (a - b) % 281474976710656 := by omega
  have h1 : (a - b) % 281474976710656 < 281474976710656 := by omega
  have hf1 : Hid (140737488355328 < (a - b) % 281474976710656 → farC a b = (a - b) % 281474976710656 - 281474976710656) := fun h => if_pos h
  have hf2 : Hid (¬ 140737488355328 < (a - b) % 281474976710656 → farC a b = (a - b) % 281474976710656) := fun h => if_neg h
  by_cases h : 140737488355328 < (a - b) % 281474976710656
  · have q : decide (140737488355328 < (a - b) % 281474976710656) = true := decide_eq_true h
    have hf := hf1.out h
    replace hf := Lib.hid hf
    go_enter Try.func121, Try.ntmps121
    go_wp2_with fail
    refine Calls.mono (up_any _ _ _) ?_
    rintro e w1 ⟨rfl, hb1⟩
    have z1 := Below.size hb1; try simp only [World.size_alloc, World.size_setCell, World.size_drew] at z1
    go_wp2_with fail
    go_ret
    exact Ret.mk (by rw [hf.out]; rfl) (by repeat (first | with_reducible exact Below.refl _ _ | (with_reducible refine Below.al ?_) | (with_reducible refine Below.drew ?_) | (with_reducible refine Below.set ?_ (by first | (simp; done) | omega | (simp; omega))) | (with_reducible refine Below.thru ?_ (by assumption)) | (with_reducible refine Below.chg ?_ (by assumption) (by first | (simp; done) | omega | (simp; omega)))))
  · have q : decide (140737488355328 < (a - b) % 281474976710656) = false := decide_eq_false h
    have hf := hf2.out h
    replace hf := Lib.hid hf
    go_enter Try.func121, Try.ntmps121
    go_wp2_with fail
    refine Calls.mono (up_any _ _ _) ?_
    rintro e w1 ⟨rfl, hb1⟩
    have z1 := Below.size hb1; try simp only [World.size_alloc, World.size_setCell, World.size_drew] at z1
    go_wp2_with fail
    go_ret
    exact Ret.mk (by rw [hf.out]; rfl) (by repeat (first | with_reducible exact Below.refl _ _ | (with_reducible refine Below.al ?_) | (with_reducible refine Below.drew ?_) | (with_reducible refine Below.set ?_ (by first | (simp; done) | omega | (simp; omega))) | (with_reducible refine Below.thru ?_ (by assumption)) | (with_reducible refine Below.chg ?_ (by assumption) (by first | (simp; done) | omega | (simp; omega)))))
theorem add_any (a n : Int) (w : World) : Calls Try.prog 146 #[.int .i64 a, .int .i64 n] w (Ret w (.int .i64 (ofC (a + n)))) := by
  obtain ⟨a0, a1⟩ := ofC_bd a
  obtain ⟨n0, n1⟩ := ofC_bd n
  have q : IntKind.i64.wrap (ofC a + ofC n) = ofC a + ofC n := IntWalk.i64_in _ (by omega)
  have e : (ofC a + ofC n) % 281474976710656 = ofC (a + n) := by unfold ofC; omega
  replace e := Lib.hid e
  go_enter Try.func146, Try.ntmps146
  go_wp2_with fail
  refine Calls.mono (of_any _ _) ?_
  rintro e w1 ⟨rfl, hb1⟩
  have z1 := Below.size hb1; try simp only [World.size_alloc, World.size_setCell, World.size_drew] at z1
  go_wp2_with fail
  refine Calls.mono (of_any _ _) ?_
  rintro e w2 ⟨rfl, hb2⟩
  have z2 := Below.size hb2; try simp only [World.size_alloc, World.size_setCell, World.size_drew] at z2
  go_wp2_with fail
  go_ret
  exact Ret.mk (congrArg (Value.int .i64) e.out) (by repeat (first | with_reducible exact Below.refl _ _ | (with_reducible refine Below.al ?_) | (with_reducible refine Below.drew ?_) | (with_reducible refine Below.set ?_ (by first | (simp; done) | omega | (simp; omega))) | (with_reducible refine Below.thru ?_ (by assumption)) | (with_reducible refine Below.chg ?_ (by assumption) (by first | (simp; done) | omega | (simp; omega)))))
theorem rof_any (n : Int) (w : World) : Calls Try.prog 101 #[.int .i64 n] w (Ret w (.int .i64 (ofC n))) := by
  have e : n.tmod 281474976710656 = if 0 ≤ n then n % 281474976710656 else -((-n) % 281474976710656) := by
    split
    · exact Int.tmod_eq_emod_of_nonneg (by omega)
    · rw [show n.tmod 281474976710656 = -((-n).tmod 281474976710656) by rw [Int.neg_tmod, Int.neg_neg], Int.tmod_eq_emod_of_nonneg (by omega)]
  have hf : (n.tmod 281474976710656 < 0 → n.tmod 281474976710656 + 281474976710656 = ofC n) ∧ (¬ n.tmod 281474976710656 < 0 → n.tmod 281474976710656 = ofC n) := by
    rw [e]; unfold ofC; omega
  have hb : -281474976710656 < n.tmod 281474976710656 ∧ n.tmod 281474976710656 < 281474976710656 := by rw [e]; omega
  obtain ⟨b0, b1⟩ := hb
  clear e
  by_cases h : n.tmod 281474976710656 < 0
  · have q : decide (n.tmod 281474976710656 < 0) = true := decide_eq_true h
    replace hf := Lib.hid (hf.1 h)
    go_enter Try.func101, Try.ntmps101
    go_wp2_with fail
    go_ret
    exact Ret.mk (by rw [← hf.out]; rfl) (by repeat (first | with_reducible exact Below.refl _ _ | (with_reducible refine Below.al ?_) | (with_reducible refine Below.drew ?_) | (with_reducible refine Below.set ?_ (by first | (simp; done) | omega | (simp; omega))) | (with_reducible refine Below.thru ?_ (by assumption)) | (with_reducible refine Below.chg ?_ (by assumption) (by first | (simp; done) | omega | (simp; omega)))))
  · have q : decide (n.tmod 281474976710656 < 0) = false := decide_eq_false h
    replace hf := Lib.hid (hf.2 h)
    go_enter Try.func101, Try.ntmps101
    go_wp2_with fail
    go_ret
    exact Ret.mk (by rw [← hf.out]; rfl) (by repeat (first | with_reducible exact Below.refl _ _ | (with_reducible refine Below.al ?_) | (with_reducible refine Below.drew ?_) | (with_reducible refine Below.set ?_ (by first | (simp; done) | omega | (simp; omega))) | (with_reducible refine Below.thru ?_ (by assumption)) | (with_reducible refine Below.chg ?_ (by assumption) (by first | (simp; done) | omega | (simp; omega)))))

theorem less_any (a b : Int) (w : World) : Calls Try.prog 131 #[.int .i64 a, .int .i64 b] w (Ret w (.bool (lessC a b))) := by
  go_enter Try.func131, Try.ntmps131
  go_wp2_with fail
  refine Calls.mono (far_any _ _ _) ?_
  rintro e w1 ⟨rfl, hb1⟩
  have z1 := Below.size hb1; try simp only [World.size_alloc, World.size_setCell, World.size_drew] at z1
  go_wp2_with fail
  go_ret
  exact Ret.mk rfl (by repeat (first | with_reducible exact Below.refl _ _ | (with_reducible refine Below.al ?_) | (with_reducible refine Below.drew ?_) | (with_reducible refine Below.set ?_ (by first | (simp; done) | omega | (simp; omega))) | (with_reducible refine Below.thru ?_ (by assumption)) | (with_reducible refine Below.chg ?_ (by assumption) (by first | (simp; done) | omega | (simp; omega)))))
end Go.Proofs.Ytpajedpkdfacoaa.Circ
