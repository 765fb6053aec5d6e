/- The walk of sift's Put. -/
import Derived.Test.YtiaefmmcakagpaaSiftUp
namespace Go.Proofs.Ytiaefmmcakagpaa.Sift
set_option linter.unusedSimpArgs false
set_option linter.unusedVariables false
open Go Go.RowKit Go.Shelf Go.Proofs.Ytiaefmmcakagpaa
open Go.Proofs.Ytiaefmmcakagpaa.DockWait (El enc val encs dockA dock_open dock_parts dock_shut placed headV)
attribute [local irreducible] Calls

def lay (d : Dg) (till : Int) (l : List El) : List El := placed (fun w => decide (d.1 < w.1)) (d.1, d.2, till) l
def putM (c : Int) (l : List El) (d : Dg) (till : Int) : (Int × List Dg) × Int × List El :=
  if (fitsM c l d.1).2 = true then
    if d.1 = c + 1 then ((0, (runM (lay d till l) c).1), (runM (lay d till l) c).2)
    else if 32 < (lay d till l).length then ((1, (upM (headV (lay d till l)).1 c (lay d till l)).1), (upM (headV (lay d till l)).1 c (lay d till l)).2)
    else ((1, []), c, lay d till l)
  else (((fitsM c l d.1).1, []), c, l)
theorem lay_len (d : Dg) (till : Int) (l : List El) : (lay d till l).length = l.length + 1 := by
  have : l.findIdx (fun w => decide (d.1 < w.1)) ≤ l.length := List.findIdx_le_length
  simp only [lay, placed, List.length_append, List.length_take, List.length_cons, List.length_drop]
  omega
theorem lay_mem {d : Dg} {till : Int} {l : List El} {y : El} (h : y ∈ lay d till l) : y = (d.1, d.2, till) ∨ y ∈ l := by
  unfold lay placed at h
  rcases List.mem_append.1 h with h | h
  · exact .inr (List.mem_of_mem_take h)
  · rcases List.mem_cons.1 h with h | h
    · exact .inl h
    · exact .inr (List.mem_of_mem_drop h)
theorem above_q (b : Nat) (d : Dg) (x : El) (w : World) (h : Box w b [.int .i64 d.1, .string d.2]) :
    Calls Try.prog 66 (#[val x] ++ #[.pointer (some ⟨b, 0, none⟩)]) w (Ret w (.bool (decide (d.1 < x.1)))) := by
  obtain ⟨z, k, f⟩ := h
  obtain ⟨x1, x2, x3⟩ := x
  unfold val
  simp only [List.push_toArray, List.append_toArray, List.nil_append, List.cons_append]
  go_enter Try.func66, Try.ntmps66
  go_wp2_with fail
  go_ret
  exact Ret.mk rfl (by repeat (first | with_reducible exact Below.refl _ _ | (with_reducible refine Below.al ?_) | (with_reducible refine Below.drew ?_) | (with_reducible refine Below.set ?_ (by first | (simp; done) | omega | (simp; omega))) | (with_reducible refine Below.thru ?_ (by assumption)) | (with_reducible refine Below.chg ?_ (by assumption) (by first | (simp; done) | omega | (simp; omega)))))
theorem fits_facts {c num : Int} {l : List El} (h : (fitsM c l num).2 = true) : c < num ∧ num ≤ top ∧ (l.any fun x => x.1 == num) = false := by
  unfold fitsM at h
  split at h
  · cases h
  · split at h
    · cases h
    · split at h
      · cases h
      · rename_i h1 h2 h3
        exact ⟨by omega, by omega, by cases hq : (l.any fun x => x.1 == num) with | true => exact absurd hq h2 | false => rfl⟩

set_option maxRecDepth 100000 in
set_option maxHeartbeats 1000000 in
theorem put_any (s : Nat) (c : Int) (l : List El) (d : Dg) (till : Int) (hl : l.length ≤ 32) (hc0 : 0 ≤ c) (hc1 : c ≤ top) (hb : ∀ x ∈ l, 0 < x.1 ∧ x.1 ≤ top) (w : World) (S : Nat → Prop) (h : (siftA s c l).holds w S) :
    Calls Try.prog 22 #[.pointer (some ⟨s, 0, none⟩), .agg #[.int .i64 d.1, .string d.2], .int .i64 till] w (fun e w' => ∃ v', e = .returned (.tuple #[.int .i64 (putM c l d till).1.1, v']) ∧ St w S w' [rowA 2 v' (putM c l d till).1.2.length (dgs (putM c l d till).1.2), siftA s (putM c l d till).2.1 (putM c l d till).2.2]) := by
  obtain ⟨R, hR⟩ : ∃ R, R = putM c l d till := ⟨_, rfl⟩
  rw [← hR]
  have H0 : St w S w [siftA s c l] := St.start (Sep.one h)
  have H1 := H0.alloc [.int .i64 d.1, .string d.2] 45
  have P := Calls.st_at 1 H1 rfl fun S h => fits_any s c l d.1 (by omega) _ S h
  have hff := @fits_facts c d.1 l
  obtain ⟨z0, k0, f0⟩ := H1.box 0 rfl
  unfold putM at hR
  unfold top at hc1
  obtain ⟨d1, d2⟩ := d
  clear h H0 H1
  simp only [] at hR hff P k0 f0 z0
  generalize hfm : fitsM c l d1 = fm at *
  obtain ⟨what, ok⟩ := fm
  simp only [] at hR hff P
  cases ok with
  | false =>
    simp only [Bool.false_eq_true, if_false] at hR
    subst hR
    clear hff hfm
    replace P := Lib.hid P; replace hb := Lib.hid hb
    go_enter Try.func22, Try.ntmps22
    go_wp2_with fail
    refine Calls.mono P.out ?_
    rintro e w1 ⟨rfl, H2⟩
    clear P
    replace H2 := Lib.hid H2
    go_wp2_with fail
    go_ret2
    exact ⟨_, rfl, (H2.out.drops 1).row_nil⟩
  | true =>
    obtain ⟨hd1, hd2, _⟩ := hff rfl
    simp only [if_true] at hR
    unfold top at hd2
    clear hff
    replace P := Lib.hid P; replace hb := Lib.hid hb; replace hR := Lib.hid hR; replace hfm := Lib.hid hfm
    go_enter Try.func22, Try.ntmps22
    go_wp2_with fail
    refine Calls.mono P.out ?_
    rintro e w1 ⟨rfl, H2⟩
    obtain ⟨dk, H3⟩ := sift_parts H2
    have H4 := H3.drew
    have hw : IntKind.i64.wrap (c + 1) = c + 1 := by rw [IntKind.wrap_i64]; omega
    have P2 := Calls.st_at 1 H4 rfl fun S h => DockWait.place_any dk 33 l (d1, d2, till) _ S h (by omega) (by omega) 66 #[.pointer (some ⟨w.heap.size, 0, none⟩)] (enters_of Try.func66 (by kernel_rfl) rfl) (fun x => decide (d1 < x.1))
      (fun x w' hbw => above_q w.heap.size (d1, d2) x w' ((H4.box 2 rfl).below hbw))
    obtain ⟨z1, k1, f1⟩ := H3.box 0 rfl
    obtain ⟨z2, k2, f2⟩ := H3.box 2 rfl
    simp only [val] at P2
    clear P H2 H4 z0 k0 f0
    replace H3 := Lib.hid H3; replace P2 := Lib.hid P2
    go_wp2_with fail
    go_region_law (go_simp; go_at_call 65; refine Calls.mono P2.out ?_; rintro e w2 ⟨rfl, H5⟩; replace H5 := Lib.hid H5)
    all_goals
      have H6 : St w S w2 [dockA dk 33 (lay (d1, d2) till l), cellA s [.pointer (some ⟨dk, 0, none⟩), .int .i64 c], cellA w.heap.size [.int .i64 d1, .string d2]] := H5.out
      obtain ⟨z5, k5, f5⟩ := H6.box 1 rfl
      obtain ⟨z6, k6, f6⟩ := H6.box 2 rfl
      have hn := lay_len (d1, d2) till l
      have hmem : ∀ x ∈ lay (d1, d2) till l, 0 < x.1 ∧ x.1 ≤ top := fun x hx => by
        rcases lay_mem hx with rfl | hx
        · exact ⟨by show 0 < d1; omega, by unfold top; exact hd2⟩
        · exact hb.out x hx
      have hR2 := hR.out
      generalize lay (d1, d2) till l = L at *
      clear H5 P2 H3 k1 f1 z1 k2 f2 z2 hR
      replace H6 := Lib.hid H6; replace hn := Lib.hid hn; replace hmem := Lib.hid hmem; replace hR2 := Lib.hid hR2
      go_wp2_with fail
      refine wp_region_near (by kernel_rfl) (by kernel_rfl) ?_
      intro hs
      repeat (go_big_quiet_step (fail))
      refine wpQuiet_nil ?_
      clear hs
      intro w3 hb3
      have H7 := H6.out.thru hb3
      obtain ⟨z7, k7, f7⟩ := H7.box 1 rfl
      clear k5 f5 z5 k6 f6 z6 H6 hb3
      by_cases hq : d1 = c + 1
      · have q1 : decide (d1 = c + 1) = true := decide_eq_true hq
        have q2 : (d1 == c + 1) = true := by simpa using hq
        have hR3 := hR2.out
        rw [if_pos hq] at hR3
        have H8 := (sift_shut ((H7.arr [1, 0, 2] rfl))).row_nil (size := 2)
        obtain ⟨S9, hS9, _, back⟩ := (St.join [_, _] [_] H8).at 0 rfl
        have P3 := run_any s c L _ [] (by have := hn.out; omega) (by simp) hc0 hc1 (fun x hx => (hmem.out x hx).2) w3 S9 hS9
        clear H7 H8 hS9 hR2
        replace hq := Lib.hid hq
        replace P3 := Lib.hid P3; replace back := Lib.hid back; replace hR3 := Lib.hid hR3
        go_wp2_with fail
        refine Calls.mono P3.out ?_
        rintro e w4 ⟨v', rfl, H9⟩
        have H10 := back.out _ _ H9
        clear P3 back H9
        replace H10 := Lib.hid H10
        go_wp2_with fail
        go_ret2
        rw [hR3.out]
        refine ⟨v', rfl, ?_⟩
        exact H10.out.drops 2
      · have q1 : decide (d1 = c + 1) = false := decide_eq_false hq
        have q2 : (d1 == c + 1) = false := by simpa using hq
        have hR3 := hR2.out
        rw [if_neg hq] at hR3
        obtain ⟨SD, hSD⟩ := H7.held 0 rfl
        have P3 := DockWait.first_any dk 33 L w3 SD hSD
        have P4 := fun w' (h : Below w3.heap.size w3 w') (S : Nat → Prop) (hS : (dockA dk 33 L).holds w' S) => DockWait.len_any dk 33 L w' S hS
        obtain ⟨y, hy⟩ : ∃ y, y = headV L := ⟨_, rfl⟩
        rw [← hy] at P3 hR3
        obtain ⟨y1, y2, y3⟩ := y
        simp only [val] at P3
        replace hq := Lib.hid hq
        clear hR2 hSD
        replace P3 := Lib.hid P3; replace P4 := Lib.hid P4; replace hR3 := Lib.hid hR3; replace H7 := Lib.hid H7; replace hy := Lib.hid hy
        go_wp2_with fail
        refine Calls.mono P3.out ?_
        rintro e w4 ⟨rfl, hb4⟩
        have H8 := (H7.out.thru hb4).alloc [.int .i64 y1, .string y2, .int .i64 y3] 98
        obtain ⟨z8, k8, f8⟩ := H8.box 0 rfl
        obtain ⟨z9, k9, f9⟩ := H8.box 2 rfl
        obtain ⟨SE, hSE⟩ := H8.held 1 rfl
        have P5 := DockWait.len_any dk 33 L _ SE hSE
        clear P3 P4 H7 k7 f7 z7 hSE
        replace H8 := Lib.hid H8; replace P5 := Lib.hid P5
        go_wp2_with fail
        refine Calls.mono P5.out ?_
        rintro e w5 ⟨rfl, hb5⟩
        have H9 := H8.out.thru hb5
        obtain ⟨z10, k10, f10⟩ := H9.box 0 rfl
        clear P5 H8 z8 k8 f8 z9 k9 f9
        by_cases hq3 : 32 < L.length
        · have q3 : decide ((32 : Int) < (L.length : Int)) = true := decide_eq_true (by omega)
          have hR4 := hR3.out
          rw [if_pos hq3] at hR4
          have H10 := sift_shut (H9.arr [2, 1, 0, 3] rfl)
          obtain ⟨S9, hS9, _, back⟩ := H10.at 0 rfl
          have P6 := upTo_any s c L y1 (by have := hn.out; omega) hc0 hc1 hmem.out w5 S9 hS9
          clear H9 H10 hS9 hR3
          replace hq3 := Lib.hid hq3
          replace P6 := Lib.hid P6; replace back := Lib.hid back; replace hR4 := Lib.hid hR4
          go_wp2_with fail
          refine Calls.mono P6.out ?_
          rintro e w6 ⟨v', rfl, H11⟩
          have H12 := back.out _ _ H11
          clear P6 back H11
          replace H12 := Lib.hid H12
          go_wp2_with fail
          go_ret2
          rw [hR4.out]
          refine ⟨v', rfl, ?_⟩
          exact H12.out.drops 2
        · have q3 : decide ((32 : Int) < (L.length : Int)) = false := decide_eq_false (by omega)
          have hR4 := hR3.out
          rw [if_neg hq3] at hR4
          have H10 := ((sift_shut (H9.arr [2, 1, 0, 3] rfl)).drops 1).row_nil (size := 2)
          clear H9 hR3
          replace hq3 := Lib.hid hq3
          replace H10 := Lib.hid H10; replace hR4 := Lib.hid hR4
          go_wp2_with fail
          go_ret2
          rw [hR4.out]
          exact ⟨_, rfl, H10.out⟩
end Go.Proofs.Ytiaefmmcakagpaa.Sift
