/- The walks of the fields of an option of several paths that are bytes; reading. -/
import Derived.Test.YtpajedpkdfacoaaMpPart
namespace Go.Proofs.Ytpajedpkdfacoaa.Mp
set_option linter.unusedSimpArgs false
set_option linter.unusedVariables false
open Go Go.RowKit Go.Shelf Go.Proofs.Ytpajedpkdfacoaa Go.Proofs.Ytpajedpkdfacoaa.Octets
attribute [local irreducible] Calls

theorem i64_at {w : World} {b : Nat} {l : List Int} (c : ∀ o, w.cell? ⟨b, o, none⟩ = (i64s l)[o]?) {j : Nat} (hj : j < l.length) : w.cell? ⟨b, j, none⟩ = some (.int .i64 l[j]) := (c j).trans (i64s_at hj)
set_option maxRecDepth 100000 in
theorem index_any (l : List Int) (v : Int) (q : Nat) (hl : l.length ≤ 1000) (w : World) (hB : Box w q (i64s l)) :
    Calls Try.prog 172 #[.slice (some ⟨q, 0, none⟩) l.length l.length, .int .i64 v] w (fun e w' => ∃ j : Int, e = .returned (.int .i64 j) ∧ (0 ≤ j ↔ v ∈ l) ∧ Below w.heap.size w w') := by
  have HB := Lib.hid hB
  obtain ⟨z, c, f⟩ := hB
  clear c
  go_enter Try.func172, Try.ntmps172
  go_wp2_with fail
  go_loopg [5, 8] l.length (fun g _ i wr => ∃ j : Nat, j ≤ l.length ∧ Hid (g = l.length - j) ∧ i = .int .i64 j ∧ Hid (∀ k (hk : k < l.length), k < j → v ≠ l[k]) ∧ Below w.heap.size w wr)
  case atStart => exact ⟨0, by omega, Lib.hid rfl, rfl, Lib.hid (fun k hk h => by omega), (by repeat (first | with_reducible exact Below.refl _ _ | (with_reducible refine Below.al ?_) | (with_reducible refine Below.drew ?_) | (with_reducible refine Below.set ?_ (by first | (simp; done) | omega | (simp; omega))) | (with_reducible refine Below.thru ?_ (by assumption)) | (with_reducible refine Below.chg ?_ (by assumption) (by first | (simp; done) | omega | (simp; omega)))))⟩
  case round =>
    obtain ⟨j, hj, hg, rfl, hno, hbw⟩ := hrel
    by_cases hlt : j < l.length
    · have HB2 := HB.out.below hbw
      obtain ⟨z2, c2, f2⟩ := HB2
      have e0 := i64_at c2 hlt
      have hmem : l[j] ∈ l := List.getElem_mem hlt
      have hnx : v ≠ l[j] → ∀ k (hk : k < l.length), k < j + 1 → v ≠ l[k] := fun h0 k hk h1 => by
        by_cases e : k = j
        · subst e; exact h0
        · exact hno.out k hk (by omega)
      have hlt' : (j : Int) < l.length := by omega
      clear c2
      generalize l[j] = x at *
      replace hmem := Lib.hid hmem
      by_cases hv : v = x
      · have q : (v == x) = true := by simpa using hv
        have q' : decide (v = x) = true := decide_eq_true hv
        clear hnx
        have hin : v ∈ l := by rw [hv]; exact hmem.out
        replace hv := Lib.hid hv
        replace hin := Lib.hid hin
        go_wp2_with fail
        go_ret
        exact ⟨j, rfl, ⟨fun _ => hin.out, fun _ => by omega⟩, (by repeat (first | with_reducible exact Below.refl _ _ | (with_reducible refine Below.al ?_) | (with_reducible refine Below.drew ?_) | (with_reducible refine Below.set ?_ (by first | (simp; done) | omega | (simp; omega))) | (with_reducible refine Below.thru ?_ (by assumption)) | (with_reducible refine Below.chg ?_ (by assumption) (by first | (simp; done) | omega | (simp; omega)))))⟩
      · have q : (v == x) = false := by simpa using hv
        have q' : decide (v = x) = false := decide_eq_false hv
        replace hnx := Lib.hid (hnx hv)
        replace hv := Lib.hid hv
        go_wp2_with fail
        go_roundg (l.length - (j + 1))
        case measure => have := hg.out; omega
        case rel => exact ⟨j + 1, by omega, Lib.hid rfl, by go_num, hnx, (by repeat (first | with_reducible exact Below.refl _ _ | (with_reducible refine Below.al ?_) | (with_reducible refine Below.drew ?_) | (with_reducible refine Below.set ?_ (by first | (simp; done) | omega | (simp; omega))) | (with_reducible refine Below.thru ?_ (by assumption)) | (with_reducible refine Below.chg ?_ (by assumption) (by first | (simp; done) | omega | (simp; omega)))))⟩
    · have hlt' : ¬ (j : Int) < l.length := by omega
      go_wp2_with fail
      go_ret
      refine ⟨-1, rfl, ?_, (by repeat (first | with_reducible exact Below.refl _ _ | (with_reducible refine Below.al ?_) | (with_reducible refine Below.drew ?_) | (with_reducible refine Below.set ?_ (by first | (simp; done) | omega | (simp; omega))) | (with_reducible refine Below.thru ?_ (by assumption)) | (with_reducible refine Below.chg ?_ (by assumption) (by first | (simp; done) | omega | (simp; omega)))))⟩
      refine ⟨fun h => by omega, fun hm => ?_⟩
      exfalso
      obtain ⟨k, hk, e⟩ := List.getElem_of_mem hm
      exact hno.out k hk (by omega) e.symm
theorem contains_any (l : List Int) (v : Int) (q : Nat) (hl : l.length ≤ 1000) (w : World) (hB : Box w q (i64s l)) :
    Calls Try.prog 171 #[.slice (some ⟨q, 0, none⟩) l.length l.length, .int .i64 v] w (Ret w (.bool (decide (v ∈ l)))) := by
  have P := index_any l v q hl w hB
  clear hB
  replace P := Lib.hid P
  go_enter Try.func171, Try.ntmps171
  go_wp2_with fail
  refine Calls.mono P.out ?_
  rintro e w1 ⟨j, rfl, hj', hb⟩
  have hj : decide (0 ≤ j) = decide (v ∈ l) := decide_eq_decide.2 hj'
  clear hj'
  clear P
  replace hj := Lib.hid hj
  go_wp2_with fail
  go_ret
  exact Ret.mk (by rw [← hj.out]; rfl) hb
theorem bcheck_any (m : Mu) (l : List Int) (q : Nat) (hl : l.length ≤ 1000) (hd : m.dat.size ≤ 900000000) (w : World) (hB : Box w q (i64s l)) :
    Calls Try.prog 168 #[.agg #[.slice (some ⟨q, 0, none⟩) l.length l.length], .agg (encM m).toArray] w (Ret w (.int .i64 (chkF m (.byt l)))) := by
  have H := ((St.zero w).alloc [.slice (some ⟨q, 0, none⟩) l.length l.length] 126).alloc (encM m) 23
  simp only [World.size_alloc] at H
  have P := contains_any l m.dat.size q hl _ (hB.below (H.below))
  obtain ⟨kind, addr, prio, num, token, nonce, dat⟩ := m
  unfold encM chkF at *
  simp only [] at *
  clear hB
  by_cases hin : (dat.size : Int) ∈ l
  · rw [decide_eq_true hin] at P
    rw [if_pos hin]
    replace H := Lib.hid H; replace P := Lib.hid P; replace hin := Lib.hid hin
    go_enter Try.func168, Try.ntmps168
    go_wp2_with fail
    refine Calls.mono (P.out) ?_
    rintro e w1 ⟨rfl, hb1⟩
    have z1 := Below.size hb1; try simp only [World.size_alloc, World.size_setCell, World.size_drew] at z1
    have H2 := H.out.thru hb1
    clear P H
    replace H2 := Lib.hid H2
    go_wp2_with fail
    go_ret
    exact H2.out.ret rfl
  · rw [decide_eq_false hin] at P
    rw [if_neg hin]
    replace H := Lib.hid H; replace P := Lib.hid P; replace hin := Lib.hid hin
    go_enter Try.func168, Try.ntmps168
    go_wp2_with fail
    refine Calls.mono (P.out) ?_
    rintro e w1 ⟨rfl, hb1⟩
    have z1 := Below.size hb1; try simp only [World.size_alloc, World.size_setCell, World.size_drew] at z1
    have H2 := H.out.thru hb1
    clear P H
    replace H2 := Lib.hid H2
    go_wp2_with fail
    go_ret
    exact H2.out.ret rfl
end Go.Proofs.Ytpajedpkdfacoaa.Mp
