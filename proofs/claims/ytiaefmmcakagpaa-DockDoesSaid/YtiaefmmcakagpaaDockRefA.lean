/- The walks of the dock's answer. -/
import Derived.Test.YtiaefmmcakagpaaPlaceI
import Derived.Test.YtiaefmmcakagpaaReadA
import Derived.Test.YtiaefmmcakagpaaMadeT
import Derived.WalkSpells
namespace Go.Proofs.Ytiaefmmcakagpaa.DockRef
set_option linter.unusedSimpArgs false
set_option linter.unusedVariables false
open Go Go.RowKit Go.Proofs.Ytiaefmmcakagpaa
open Go.Proofs.Ytiaefmmcakagpaa.DockSInt (placed)
attribute [local irreducible] Calls

/-- The answer's dock. -/
def refD (d : Nat) (most : Int) (l : List Int) : Asn := exA fun v => sepA [cellA d [v, .int .i64 most], readA 1 v l.length (i64s l)]
theorem refD_open {W w : World} {S : Nat → Prop} {d : Nat} {most : Int} {l : List Int} {r : List Asn} (h : St W S w (refD d most l :: r)) :
    ∃ a cap, St W S w (cellA d [.slice a l.length cap, .int .i64 most] :: readA 1 (.slice a l.length cap) l.length (i64s l) :: r) := by
  obtain ⟨v, h1⟩ := St.unex 0 h rfl
  have h2 : St W S w (cellA d [v, .int .i64 most] :: readA 1 v l.length (i64s l) :: r) := St.unsep 0 h1 rfl
  obtain ⟨_, a, cap, rfl, _⟩ := St.reads 1 h2 rfl
  exact ⟨a, cap, h2⟩
theorem refD_shut {W w : World} {S : Nat → Prop} {d n : Nat} {most : Int} {l : List Int} {v : Value} {r : List Asn} (hn : l.length = n) (h : St W S w (cellA d [v, .int .i64 most] :: readA 1 v n (i64s l) :: r)) : St W S w (refD d most l :: r) := by
  subst hn
  exact St.ex (fun v => sepA [cellA d [v, .int .i64 most], readA 1 v l.length (i64s l)]) v (St.join [_, _] r h)
theorem rnew_any (most : Int) (w : World) : Calls Try.prog 13 #[.int .i64 most] w fun e w' => ∃ d, e = .returned (.pointer (some ⟨d, 0, none⟩)) ∧ St w none0 w' [refD d (min (max most 0) 1000) []] := by
  go_enter Try.func13, Try.ntmps13
  go_wp2_with fail
  go_ret
  exact ⟨_, rfl, refD_shut (l := []) (v := .slice none 0 0) (r := []) rfl ((((St.zero w).row_nil (size := 1)).to_read 0 rfl).alloc [.slice none 0 0, .int .i64 (min (max most 0) 1000)] _)⟩
/-- s[1:] of ints. -/
theorem ints_next {W w : World} {S0 : Nat → Prop} {l : List Asn} {g o cap n : Nat} {p : List Int} (i : Nat) (h : St W S0 w l) (hi : l[i]? = some (readA 1 (.slice (some ⟨g, o, none⟩) (n + 1) cap) (n + 1) (i64s p))) (hp : p.length = n + 1) (o' cap' : Nat) (hc : (cap' = 0 ∧ n = 0) ∨ (o' = o + 1 ∧ cap' = cap - 1)) :
    St W S0 w (readA 1 (.slice (some ⟨g, o', none⟩) n cap') n (i64s (p.drop 1)) :: l.eraseIdx i) := by
  obtain ⟨h1, a, c0, e, h2, h3, _⟩ := St.reads i h hi
  cases e
  refine St.read_part i h hi (by rw [i64s_len, List.length_drop, hp]; omega) (by omega) (by omega) fun j u hu => ?_
  have hd : i64s (p.drop 1) = (i64s p).drop 1 := by simp [i64s]
  rw [hd, List.getElem?_drop] at hu
  refine ⟨1 + j, hu, ?_⟩
  rcases hc with ⟨_, rfl⟩ | ⟨rfl, _⟩
  · have := (List.getElem?_eq_some_iff.1 hu).1
    rw [i64s_len, hp] at this
    omega
  · omega
/-- Its head; what is behind it. -/
theorem rpull_nil {W w : World} {S0 : Nat → Prop} {r : List Asn} (d : Nat) (most : Int) (H : St W S0 w (refD d most [] :: r)) :
    Calls Try.prog 54 #[.pointer (some ⟨d, 0, none⟩)] w (fun e w' => e = .returned (.tuple #[.int .i64 0, .bool false]) ∧ St W S0 w' (refD d most [] :: r)) := by
  obtain ⟨a, cap, H1⟩ := refD_open H
  obtain ⟨z, c, f⟩ := H1.box 0 rfl
  clear H1
  replace H := Lib.hid H
  go_enter Try.func54, Try.ntmps54
  go_wp2_with fail
  go_ret2
  exact ⟨rfl, H.out⟩
set_option maxRecDepth 100000 in
theorem rpull_cons {W w : World} {S0 : Nat → Prop} {r : List Asn} (d : Nat) (most x : Int) (l : List Int) (hl : l.length ≤ 100000) (H : St W S0 w (refD d most (x :: l) :: r)) :
    Calls Try.prog 54 #[.pointer (some ⟨d, 0, none⟩)] w (fun e w' => e = .returned (.tuple #[.int .i64 x, .bool true]) ∧ St W S0 w' (refD d most l :: r)) := by
  obtain ⟨a, cap, H1⟩ := refD_open H
  obtain ⟨z, c, f⟩ := H1.box 0 rfl
  obtain ⟨hx1, _, _, e, hx2, hx3, hx4⟩ := St.reads 1 H1 rfl
  cases e
  simp only [List.length_cons] at H1 hx1 hx2 hx4 c
  rcases hx4 with ⟨_, h0, _⟩ | ⟨g, o, rfl, hg, hr⟩
  · omega
  · have e0 := hr 0 (.int .i64 x) rfl
    simp only [Nat.add_zero] at e0
    unfold maxLen at hx3
    clear hx1 hr H
    by_cases hc : cap = 1
    · have hl0 : l = [] := List.eq_nil_of_length_eq_zero (by omega)
      subst hl0
      subst hc
      have HN := ints_next 1 H1 rfl rfl o 0 (.inl ⟨rfl, rfl⟩)
      replace H1 := Lib.hid H1; replace HN := Lib.hid HN
      go_enter Try.func54, Try.ntmps54
      go_wp2_with fail
      go_ret2
      have H3 := (HN.out.front 1 rfl).set 0 rfl 0 (.slice (some ⟨g, o, none⟩) 0 0) (by simp)
      exact ⟨rfl, refD_shut rfl H3⟩
    · have HN := ints_next 1 H1 rfl rfl (o + 1) (cap - 1) (.inr ⟨rfl, rfl⟩)
      replace H1 := Lib.hid H1; replace HN := Lib.hid HN
      go_enter Try.func54, Try.ntmps54
      go_wp2_with fail
      go_ret2
      have H3 := (HN.out.front 1 rfl).set 0 rfl 0 (.slice (some ⟨g, o + 1, none⟩) l.length (cap - 1)) (by simp)
      exact ⟨rfl, refD_shut rfl H3⟩
end Go.Proofs.Ytiaefmmcakagpaa.DockRef
