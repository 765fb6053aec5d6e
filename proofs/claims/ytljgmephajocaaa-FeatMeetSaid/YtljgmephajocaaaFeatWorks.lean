/- The walks of the statements' works, and of FeatBoth. -/
import Derived.Test.YtljgmephajocaaaFeatAgr
import Derived.Test.YtljgmephajocaaaFits
namespace Go.Proofs.Ytljgmephajocaaa.Feat
set_option linter.unusedSimpArgs false
set_option linter.unusedVariables false
open Go Go.RowKit Go.Shelf Go.Proofs.Ytljgmephajocaaa
open Go.Proofs.Ytljgmephajocaaa.Opts (El encs Few els_at arr_ext)
attribute [local irreducible] Calls

theorem ans_any (a : Option Addr) (c : Nat) : ansV [⟨10, [0, 1], a, c⟩] [(34, ⟨#[10, 1, 0]⟩)] = ([(33, ⟨#[10, 0, 1]⟩)], 0) := rfl
set_option maxRecDepth 100000 in
set_option maxHeartbeats 1600000 in
theorem works_law (w : World) : Calls Try.prog 49 #[] w (Ret w (.bool true)) := by
  have H1 := ((St.zero w).alloc (i64s [3, 2, 1]) 3).alloc (i64s [1, 2]) 3
  simp only [World.size_alloc] at H1
  have P1 := meet_any [3, 2, 1] [1, 2] 3 2 rfl rfl (by decide) (by decide) (some ⟨w.heap.size, 0, none⟩) (some ⟨w.heap.size + 1, 0, none⟩) 3 2 _ (H1.box 1 rfl).rd (H1.box 0 rfl).rd
  rw [meet_321] at P1
  replace H1 := Lib.hid H1
  go_enter Try.func49, Try.ntmps49
  go_wp2_with fail
  refine Calls.mono P1 ?_
  rintro e w1 ⟨rfl, hb1⟩
  have hb1' := (H1.out.thru hb1).below
  clear P1 H1
  have H2 := ((St.zero w).thru hb1').alloc (i64s [1, 0]) 3
  have P2 := put_any 34 10 [1, 0] 2 rfl (by decide) (some ⟨w1.heap.size, 0, none⟩) 2 _ (H2.box 0 rfl).rd
  rw [put_10.1, put_10.2] at P2
  replace H2 := Lib.hid H2
  go_wp2_with fail
  refine Calls.mono P2 ?_
  rintro e w2 ⟨rfl, hb2⟩
  have hb2' := (H2.out.thru hb2).below
  clear P2 H2
  have H3 := ((St.zero w).thru hb2').alloc [.int .i64 34, .string ⟨#[10, 1, 0]⟩] 73
  obtain ⟨z3, c3, f3⟩ := H3.box 0 rfl
  have H4 := (H3.alloc (i64s [0, 1]) 3)
  have H5 := (H4.alloc [.int .i64 10, .slice (some ⟨w2.heap.size + 1, 0, none⟩) 2 2] 88)
  have H6 := (H5.alloc [.int .i64 34, .string ⟨#[10, 1, 0]⟩] 73)
  simp only [World.size_alloc] at H6
  have P3 := answer_any [⟨10, [0, 1], some ⟨w2.heap.size + 1, 0, none⟩, 2⟩] 1 1 (some ⟨w2.heap.size + 1 + 1, 0, none⟩) rfl ⟨by simp, fun x hx => by simp at hx; subst hx; simp⟩ [(34, ⟨#[10, 1, 0]⟩)] 1 1 (some ⟨w2.heap.size + 1 + 1 + 1, 0, none⟩) rfl ⟨by decide, fun x hx => by simp at hx; subst hx; exact ⟨by unfold isI64; decide, by decide⟩⟩ _
    ⟨(H6.box 1 rfl).rd, fun x hx => by simp at hx; subst hx; exact (H6.box 2 rfl).rd⟩ (H6.box 0 rfl).rd
  unfold AnsS at P3
  rw [ans_any] at P3
  clear H3 H4 H5
  replace H6 := Lib.hid H6
  go_wp2_with fail
  refine Calls.mono P3 ?_
  rintro e w3 ⟨v, rfl, H7⟩
  have H8 := H6.out.add H7
  obtain ⟨va, vc, rfl, _⟩ := St.slice (by omega) 0 H8 rfl
  obtain ⟨z8, c8, f8⟩ := H8.box 4 rfl
  have P4 := agreed_any [(33, ⟨#[10, 0, 1]⟩)] 1 vc va rfl ⟨by decide, fun x hx => by simp at hx; subst hx; exact ⟨by unfold isI64; decide, by decide⟩⟩ 10 w3 (St.rd (by omega) 0 H8 rfl)
  rw [agr_10] at P4
  clear P3 H6 H7 c3 f3 z3
  replace H8 := Lib.hid H8
  go_wp2_with fail
  refine Calls.mono P4 ?_
  rintro e w4 ⟨rfl, hb4⟩
  have H9 := H8.out.thru hb4
  obtain ⟨z9, c9, f9⟩ := H9.box 4 rfl
  clear P4 H8 c8 f8 z8
  replace H9 := Lib.hid H9
  go_wp2_with fail
  go_ret
  exact H9.out.ret rfl
end Go.Proofs.Ytljgmephajocaaa.Feat
