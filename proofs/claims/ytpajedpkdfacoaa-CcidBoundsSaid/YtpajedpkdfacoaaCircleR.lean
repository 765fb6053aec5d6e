
/- The walks of the document's Far and Many. -/
import Derived.Test.YtpajedpkdfacoaaCircle
import Derived.Deep.LoopGhost
namespace Go.Proofs.Ytpajedpkdfacoaa.Circ
set_option linter.unusedSimpArgs false
set_option linter.unusedVariables false
open Go Go.RowKit Go.Proofs.Ytpajedpkdfacoaa
attribute [local irreducible] Calls

theorem rfar_any (a b : Int) (w : World) : Calls Try.prog 98 #[.int .i64 a, .int .i64 b] w (Ret w (.int .i64 (farC a b))) := by
  obtain ⟨a0, a1⟩ := ofC_bd a
  obtain ⟨b0, b1⟩ := ofC_bd b
  have e : ofC a - ofC b = farC a b ∨ ofC a - ofC b = farC a b + 281474976710656 ∨ ofC a - ofC b = farC a b - 281474976710656 := by unfold ofC farC; omega
  obtain ⟨f0, f1⟩ := farC_bd a b
  generalize farC a b = f at *
  go_enter Try.func98, Try.ntmps98
  go_wp2_with fail
  refine Calls.mono (rof_any _ _) ?_
  rintro e w1 ⟨rfl, hb1⟩
  have z1 := Below.size hb1; try simp only [World.size_alloc, World.size_setCell, World.size_drew] at z1
  go_wp2_with fail
  refine Calls.mono (rof_any _ _) ?_
  rintro e w2 ⟨rfl, hb2⟩
  have z2 := Below.size hb2; try simp only [World.size_alloc, World.size_setCell, World.size_drew] at z2
  generalize ofC a = x at *
  generalize ofC b = y at *
  replace e := Lib.hid e
  go_wp2_with fail
  go_loopg [5] 2 (fun g v wr => ∃ d : Int, v = .int .i64 d ∧ ((d = f ∧ g ≤ 2) ∨ (d = f + 281474976710656 ∧ g = 2) ∨ (d = f - 281474976710656 ∧ g ≤ 2)) ∧ Below w.heap.size w wr)
  case atStart => exact ⟨_, rfl, by have := e.out; omega, (by repeat (first | with_reducible exact Below.refl _ _ | (with_reducible refine Below.al ?_) | (with_reducible refine Below.drew ?_) | (with_reducible refine Below.set ?_ (by first | (simp; done) | omega | (simp; omega))) | (with_reducible refine Below.thru ?_ (by assumption)) | (with_reducible refine Below.chg ?_ (by assumption) (by first | (simp; done) | omega | (simp; omega)))))⟩
  case round =>
    obtain ⟨d, rfl, hd, hbw⟩ := hrel
    have hd0 : -422212465065984 ≤ d ∧ d ≤ 422212465065984 := by omega
    obtain ⟨d0, d1⟩ := hd0
    by_cases hlt : 140737488355328 < d
    · have q : decide (140737488355328 < d) = true := decide_eq_true hlt
      replace hd := Lib.hid hd
      go_wp2_with fail
      go_roundg 1
      case measure => have := hd.out; omega
      case rel => exact ⟨_, rfl, by have := hd.out; omega, hbw⟩
    · have q : decide (140737488355328 < d) = false := decide_eq_false hlt
      have hd2 : d = f ∨ d = f - 281474976710656 := by omega
      clear hd
      replace hd2 := Lib.hid hd2
      go_wp2_with fail
      go_loopg [5] 2 (fun g v wr => ∃ d : Int, v = .int .i64 d ∧ ((d = f ∧ g ≤ 2) ∨ (d = f - 281474976710656 ∧ g = 2)) ∧ Below w.heap.size w wr)
      case atStart => exact ⟨_, rfl, by have := hd2.out; omega, hbw⟩
      case round =>
        obtain ⟨d', rfl, hd', hbw'⟩ := hrel
        have hd0' : -422212465065984 ≤ d' ∧ d' ≤ 422212465065984 := by omega
        obtain ⟨d0', d1'⟩ := hd0'
        by_cases hlt' : d' ≤ -140737488355328
        · have q : decide (d' ≤ -140737488355328) = true := decide_eq_true hlt'
          replace hd' := Lib.hid hd'
          go_wp2_with fail
          go_roundg 1
          case measure => have := hd'.out; omega
          case rel => exact ⟨_, rfl, by have := hd'.out; omega, hbw'⟩
        · have q : decide (d' ≤ -140737488355328) = false := decide_eq_false hlt'
          have hf : d' = f := by omega
          clear hd'
          replace hf := Lib.hid hf
          go_wp2_with fail
          go_ret
          exact Ret.mk (by rw [← hf.out]; rfl) (by repeat (first | with_reducible exact Below.refl _ _ | (with_reducible refine Below.al ?_) | (with_reducible refine Below.drew ?_) | (with_reducible refine Below.set ?_ (by first | (simp; done) | omega | (simp; omega))) | (with_reducible refine Below.thru ?_ (by assumption)) | (with_reducible refine Below.chg ?_ (by assumption) (by first | (simp; done) | omega | (simp; omega)))))
def manyC (a b : Int) : Int := (b - a) % 281474976710656 + 1
theorem manyC_bd (a b : Int) : 1 ≤ manyC a b ∧ manyC a b ≤ 281474976710656 := by unfold manyC; omega
theorem rmany_any (a b : Int) (w : World) : Calls Try.prog 102 #[.int .i64 a, .int .i64 b] w (Ret w (.int .i64 (manyC a b))) := by
  obtain ⟨a0, a1⟩ := ofC_bd a
  obtain ⟨b0, b1⟩ := ofC_bd b
  have e : manyC a b = if ofC b < ofC a then ofC b + 281474976710656 - ofC a + 1 else ofC b - ofC a + 1 := by
    unfold manyC ofC
    split <;> omega
  by_cases h : ofC b < ofC a
  · have q : decide (ofC b < ofC a) = true := decide_eq_true h
    rw [if_pos h] at e
    generalize manyC a b = m at *
    replace e := Lib.hid e
    go_enter Try.func102, Try.ntmps102
    go_wp2_with fail
    refine Calls.mono (rof_any _ _) ?_
    rintro e w1 ⟨rfl, hb1⟩
    have z1 := Below.size hb1; try simp only [World.size_alloc, World.size_setCell, World.size_drew] at z1
    go_wp2_with fail
    refine Calls.mono (rof_any _ _) ?_
    rintro e w2 ⟨rfl, hb2⟩
    have z2 := Below.size hb2; try simp only [World.size_alloc, World.size_setCell, World.size_drew] at z2
    generalize ofC a = x at *
    generalize ofC b = y at *
    go_wp2_with fail
    go_ret
    exact Ret.mk (by rw [e.out]; rfl) (by repeat (first | with_reducible exact Below.refl _ _ | (with_reducible refine Below.al ?_) | (with_reducible refine Below.drew ?_) | (with_reducible refine Below.set ?_ (by first | (simp; done) | omega | (simp; omega))) | (with_reducible refine Below.thru ?_ (by assumption)) | (with_reducible refine Below.chg ?_ (by assumption) (by first | (simp; done) | omega | (simp; omega)))))
  · have q : decide (ofC b < ofC a) = false := decide_eq_false h
    rw [if_neg h] at e
    generalize manyC a b = m at *
    replace e := Lib.hid e
    go_enter Try.func102, Try.ntmps102
    go_wp2_with fail
    refine Calls.mono (rof_any _ _) ?_
    rintro e w1 ⟨rfl, hb1⟩
    have z1 := Below.size hb1; try simp only [World.size_alloc, World.size_setCell, World.size_drew] at z1
    go_wp2_with fail
    refine Calls.mono (rof_any _ _) ?_
    rintro e w2 ⟨rfl, hb2⟩
    have z2 := Below.size hb2; try simp only [World.size_alloc, World.size_setCell, World.size_drew] at z2
    generalize ofC a = x at *
    generalize ofC b = y at *
    go_wp2_with fail
    go_ret
    exact Ret.mk (by rw [e.out]; rfl) (by repeat (first | with_reducible exact Below.refl _ _ | (with_reducible refine Below.al ?_) | (with_reducible refine Below.drew ?_) | (with_reducible refine Below.set ?_ (by first | (simp; done) | omega | (simp; omega))) | (with_reducible refine Below.thru ?_ (by assumption)) | (with_reducible refine Below.chg ?_ (by assumption) (by first | (simp; done) | omega | (simp; omega)))))
end Go.Proofs.Ytpajedpkdfacoaa.Circ
