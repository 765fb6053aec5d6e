
/- The walks of the package heard. -/
import Derived.Test.YtpajedpkdfacoaaAvecAtF
import Derived.Test.YtpajedpkdfacoaaMade
import Derived.Test.YtpajedpkdfacoaaCircle
namespace Go.Proofs.Ytpajedpkdfacoaa.Heard
set_option linter.unusedSimpArgs false
set_option linter.unusedVariables false
open Go Go.RowKit Go.Proofs.Ytpajedpkdfacoaa Go.Proofs.Ytpajedpkdfacoaa.Circ
attribute [local irreducible] Calls

structure Hd where
  newest : Int
  came : List Bool
  untold : Int
  ticks : Int
def hdV (g : Nat) (h : Hd) : List Value := [.int .i64 h.newest, .slice (some ⟨g, 0, none⟩) h.came.length h.came.length, .int .i64 h.untold, .int .i64 h.ticks]
def heardA (d : Nat) (h : Hd) : Asn := exA fun g => sepA [cellA d (hdV g h), cellA g (bools h.came)]
theorem heard_open {d : Nat} {h : Hd} {w : World} {S : Nat → Prop} (H : (heardA d h).holds w S) : ∃ g, St w S w [cellA d (hdV g h), cellA g (bools h.came)] := by
  obtain ⟨v, h⟩ := H
  exact ⟨v, St.start h⟩
theorem heard_shut {W w : World} {S : Nat → Prop} {d g : Nat} {h : Hd} {r : List Asn} (H : St W S w (cellA d (hdV g h) :: cellA g (bools h.came) :: r)) : St W S w (heardA d h :: r) :=
  St.ex (fun v => sepA [cellA d (hdV v h), cellA v (bools h.came)]) g (St.join [cellA d (hdV g h), cellA g (bools h.came)] r H)
theorem heard_parts {W w : World} {S : Nat → Prop} {d : Nat} {h : Hd} {r : List Asn} (H : St W S w (heardA d h :: r)) : ∃ g, St W S w (cellA d (hdV g h) :: cellA g (bools h.came) :: r) := by
  obtain ⟨v, h⟩ := St.unex 0 H rfl
  exact ⟨v, St.unsep 0 h rfl⟩
theorem bools_len (l : List Bool) : (bools l).length = l.length := by simp [bools]
theorem bool_info : (Try.prog.info? 4).map (fun i => (i.zero, i.size, i.bytes)) = some (some (.bool false), 1, 1) := by kernel_rfl

theorem new_any (n : Int) (w : World) : Calls Try.prog 52 #[.int .i64 n] w fun e w' => ∃ d, e = .returned (.pointer (some ⟨d, 0, none⟩)) ∧ St w none0 w' [heardA d ⟨ofC n, [true], 0, 0⟩] := by
  go_enter Try.func52, Try.ntmps52
  go_wp2_with fail
  refine Calls.mono (of_any _ _) ?_
  rintro e w1 ⟨rfl, hb1⟩
  have H1 := (((St.zero w).thru hb1).alloc [.bool true] 4)
  replace H1 := Lib.hid H1
  go_wp2_with fail
  go_ret
  have H2 := H1.out.alloc [.int .i64 (ofC n), .slice (some ⟨w1.heap.size, 0, none⟩) 1 1, .int .i64 0, .int .i64 0] 143
  simp only [World.size_alloc] at H2
  exact ⟨_, rfl, heard_shut (r := []) (h := ⟨ofC n, [true], 0, 0⟩) H2⟩

/-- Where a packet stands. -/
def backB (h : Hd) (s : Int) : Bool := decide (0 ≤ farC h.newest s ∧ farC h.newest s < h.came.length)
theorem place_any (d : Nat) (h : Hd) (s : Int) (w : World) (S : Nat → Prop) (H : (heardA d h).holds w S) (hl : h.came.length ≤ 128) :
    Calls Try.prog 123 #[.pointer (some ⟨d, 0, none⟩), .int .i64 s] w (Ret w (.tuple #[.int .i64 (farC h.newest s), .bool (backB h s)])) := by
  obtain ⟨g, H1⟩ := heard_open H
  obtain ⟨z, c, f⟩ := H1.box 0 rfl
  obtain ⟨f0, f1⟩ := farC_bd h.newest s
  have P := fun W => far_any h.newest s W
  unfold hdV at c
  unfold backB
  generalize farC h.newest s = x at *
  clear H H1
  by_cases h0 : 0 ≤ x
  · have q0 : decide (0 ≤ x) = true := decide_eq_true h0
    by_cases h1 : x < h.came.length
    · have q1 : decide (x < (h.came.length : Int)) = true := decide_eq_true h1
      rw [decide_eq_true ⟨h0, h1⟩]
      replace P := Lib.hid P
      go_enter Try.func123, Try.ntmps123
      go_wp2_with fail
      refine Calls.mono (P.out _) ?_
      rintro e w1 ⟨rfl, hb1⟩
      have z1 := Below.size hb1; try simp only [World.size_alloc, World.size_setCell, World.size_drew] at z1
      obtain ⟨c1_0, f1_0⟩ := Below.blk hb1 (b := d) (by first | (simp; done) | omega | (simp; omega))
      have z1_0 : d < w1.heap.size := (by first | (simp; done) | omega | (simp; omega))
      clear P
      go_wp2_with fail
      refine wp_region_near (by kernel_rfl) (by kernel_rfl) ?_
      intro hs
      repeat (go_big_quiet_step (fail))
      refine wpQuiet_nil ?_
      clear hs
      intro w2 hb2
      go_wp2_with fail
      go_ret2
      exact Ret.mk rfl (by repeat (first | with_reducible exact Below.refl _ _ | (with_reducible refine Below.al ?_) | (with_reducible refine Below.drew ?_) | (with_reducible refine Below.set ?_ (by first | (simp; done) | omega | (simp; omega))) | (with_reducible refine Below.thru ?_ (by assumption)) | (with_reducible refine Below.chg ?_ (by assumption) (by first | (simp; done) | omega | (simp; omega)))))
    · have q1 : decide (x < (h.came.length : Int)) = false := decide_eq_false h1
      rw [decide_eq_false (fun h => h1 h.2)]
      replace P := Lib.hid P
      go_enter Try.func123, Try.ntmps123
      go_wp2_with fail
      refine Calls.mono (P.out _) ?_
      rintro e w1 ⟨rfl, hb1⟩
      have z1 := Below.size hb1; try simp only [World.size_alloc, World.size_setCell, World.size_drew] at z1
      obtain ⟨c1_0, f1_0⟩ := Below.blk hb1 (b := d) (by first | (simp; done) | omega | (simp; omega))
      have z1_0 : d < w1.heap.size := (by first | (simp; done) | omega | (simp; omega))
      clear P
      go_wp2_with fail
      refine wp_region_near (by kernel_rfl) (by kernel_rfl) ?_
      intro hs
      repeat (go_big_quiet_step (fail))
      refine wpQuiet_nil ?_
      clear hs
      intro w2 hb2
      go_wp2_with fail
      go_ret2
      exact Ret.mk rfl (by repeat (first | with_reducible exact Below.refl _ _ | (with_reducible refine Below.al ?_) | (with_reducible refine Below.drew ?_) | (with_reducible refine Below.set ?_ (by first | (simp; done) | omega | (simp; omega))) | (with_reducible refine Below.thru ?_ (by assumption)) | (with_reducible refine Below.chg ?_ (by assumption) (by first | (simp; done) | omega | (simp; omega)))))
  · have q0 : decide (0 ≤ x) = false := decide_eq_false h0
    rw [decide_eq_false (fun h => h0 h.1)]
    replace P := Lib.hid P
    go_enter Try.func123, Try.ntmps123
    go_wp2_with fail
    refine Calls.mono (P.out _) ?_
    rintro e w1 ⟨rfl, hb1⟩
    have z1 := Below.size hb1; try simp only [World.size_alloc, World.size_setCell, World.size_drew] at z1
    obtain ⟨c1_0, f1_0⟩ := Below.blk hb1 (b := d) (by first | (simp; done) | omega | (simp; omega))
    have z1_0 : d < w1.heap.size := (by first | (simp; done) | omega | (simp; omega))
    clear P
    go_wp2_with fail
    refine wp_region_near (by kernel_rfl) (by kernel_rfl) ?_
    intro hs
    repeat (go_big_quiet_step (fail))
    refine wpQuiet_nil ?_
    clear hs
    intro w2 hb2
    go_wp2_with fail
    go_ret2
    exact Ret.mk rfl (by repeat (first | with_reducible exact Below.refl _ _ | (with_reducible refine Below.al ?_) | (with_reducible refine Below.drew ?_) | (with_reducible refine Below.set ?_ (by first | (simp; done) | omega | (simp; omega))) | (with_reducible refine Below.thru ?_ (by assumption)) | (with_reducible refine Below.chg ?_ (by assumption) (by first | (simp; done) | omega | (simp; omega)))))
end Go.Proofs.Ytpajedpkdfacoaa.Heard
