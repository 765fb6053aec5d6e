
/- The walk of slices.Delete at a type of elements, in a row of the call's own. -/
import Derived.Test.YtiaefmmcakagpaaSplice
import Derived.WalkLawsBesides
namespace Go.Proofs.Ytiaefmmcakagpaa.DelInt
set_option linter.unusedSimpArgs false
set_option linter.unusedVariables false
open Go Go.RowKit Go.Proofs.Ytiaefmmcakagpaa
attribute [local irreducible] Calls

theorem el_info : (Try.prog.info? 3).map (fun i => (i.zero, i.size, i.bytes)) = some (some (.int .i64 0), 1, 8) := by kernel_rfl

set_option maxRecDepth 100000 in
set_option maxHeartbeats 800000 in
theorem delete_any (g o n cap i j : Nat) (xs : List Value) (S : Nat → Prop) (w : World) (hr : (rowA 1 (.slice (some ⟨g, o, none⟩) n cap) n xs).holds w S) (hij : i < j) (hjn : j ≤ n) (h1 : ∀ u ∈ xs, u.oneCell' = true) :
    Calls Try.prog 88 #[.slice (some ⟨g, o, none⟩) n cap, .int .i64 (i : Int), .int .i64 (j : Int)] w fun e w' =>
      e = .returned (.slice (some ⟨g, o, none⟩) (i + (n - j)) cap) ∧ St w S w' [rowA 1 (.slice (some ⟨g, o, none⟩) (i + (n - j)) cap) (i + (n - j)) (xs.take (i * 1) ++ xs.drop (j * 1))] := by
  obtain ⟨i0, hi, hz, hz1, hz2⟩ := info_parts el_info
  have H0 : St w S w [rowA 1 (.slice (some ⟨g, o, none⟩) n cap) n xs] := St.start (Sep.one hr)
  obtain ⟨hnc, hcm⟩ := (H0.row 0 rfl).roomy
  unfold maxLen at hcm
  have q0 : decide ((i : Int) = (j : Int)) = false := decide_eq_false (by omega)
  have q1 : ((i : Int) == (j : Int)) = false := by simp; omega
  clear hr
  replace H0 := Lib.hid H0; replace h1 := Lib.hid h1
  go_enter Try.func88, Try.ntmps88
  go_wp2_with fail
  haveI := H0.out.ne
  refine wp_region_cls_tail 6 (by kernel_rfl) (by kernel_rfl) H0.out ?_
  simp only [List.take_succ_cons, List.take_zero, List.drop_succ_cons, List.drop_zero]
  repeat (go_big_quiet_step (fail))
  refine wpQuiet_nil ?_
  intro w1 H1
  have hq2 : (n : Int) - j = ((n - j : Nat) : Int) := by omega
  replace H1 := Lib.hid H1
  have hq3 : ((i + (n - j) : Nat) : Int) = (i : Int) + ((n - j : Nat) : Int) := by omega
  have hlt1 : i + (n - j) < n := by omega
  have hcl : i < cap := by omega
  by_cases hcj : cap = j
  · obtain rfl : n = cap := by omega
    subst hcj
    go_wp2_with (at_builtin; (refine wpList_cutS rfl (.tmp 22) (.tmp 25) _ rfl 3 i0 Try.underlying34 hi hz1 (by omega) 0 g o _ i n H1.out rfl (by omega) hjn rfl _ _ _ rfl (by omega) rfl (fun h => by (repeat' split) <;> first | rfl | (exfalso; omega) | (rw [Nat.mul_one]; done)) h1.out ?_; intro w2 H2; (try simp only [Nat.sub_self, Nat.add_zero] at H2); obtain ⟨w3, hclr, H3⟩ := run_clearS (P := Try.prog) (size := 1) (n := i) 34 0 3 i0 _ Try.underlying34 hi hz rfl (by omega) (by simp [Value.cells, Value.oneCell']) 0 g o n H2 rfl (n - i) (n - i) (by omega) (by omega); (try simp only [Nat.mul_one] at hclr); clear H2; replace H3 := Lib.hid H3))
    go_ret
    (try simp only [Nat.sub_self, Nat.add_zero])
    exact ⟨rfl, H3.out⟩
  · go_wp2_with (at_builtin; (refine wpList_cutS rfl (.tmp 22) (.tmp 25) _ rfl 3 i0 Try.underlying34 hi hz1 (by omega) 0 g o _ i j H1.out rfl (by omega) hjn rfl _ _ _ rfl (by omega) rfl (fun h => by (repeat' split) <;> first | rfl | (exfalso; omega) | (rw [Nat.mul_one]; done)) h1.out ?_; intro w2 H2; (try simp only [Nat.sub_self, Nat.add_zero] at H2); obtain ⟨w3, hclr, H3⟩ := run_clearS (P := Try.prog) (size := 1) (n := (i + (n - j))) 34 0 3 i0 _ Try.underlying34 hi hz rfl (by omega) (by simp [Value.cells, Value.oneCell']) 0 g o cap H2 rfl (n - (i + (n - j))) (cap - (i + (n - j))) (by omega) (by omega); (try simp only [Nat.mul_one] at hclr); clear H2; replace H3 := Lib.hid H3))
    go_ret
    skip
    exact ⟨rfl, H3.out⟩
end Go.Proofs.Ytiaefmmcakagpaa.DelInt
