/- The walks of the control's answer. -/
import Derived.Test.YtljgmephajocaaaControl
import Derived.Test.YtljgmephajocaaaMadeT
import Derived.Test.YtljgmephajocaaaStepRd
import Derived.WalkSpells
namespace Go.Proofs.Ytljgmephajocaaa.Ctl
set_option linter.unusedSimpArgs false
set_option linter.unusedVariables false
open Go Go.RowKit Go.Proofs.Ytljgmephajocaaa Go.Proofs.Ytljgmephajocaaa.DockCtl
attribute [local irreducible] Calls

def refA (b : Nat) (s : Ln) : Asn := exA fun v => sepA [cellA b [v, .int .i64 s.next, .int .i64 s.since, .int .i64 s.heard], rowA 4 v s.l.length (encs s.l)]
theorem ref_parts {W w : World} {S : Nat → Prop} {b : Nat} {s : Ln} {r : List Asn} (h : St W S w (refA b s :: r)) :
    ∃ a cap, St W S w (cellA b [.slice a s.l.length cap, .int .i64 s.next, .int .i64 s.since, .int .i64 s.heard] :: rowA 4 (.slice a s.l.length cap) s.l.length (encs s.l) :: r) := by
  obtain ⟨v, h1⟩ := St.unex 0 h rfl
  have h2 : St W S w (cellA b [v, .int .i64 s.next, .int .i64 s.since, .int .i64 s.heard] :: rowA 4 v s.l.length (encs s.l) :: r) := St.unsep 0 h1 rfl
  obtain ⟨a, cap, rfl, _⟩ := St.slice (by omega) 1 h2 rfl
  exact ⟨a, cap, h2⟩
theorem ref_shut {W w : World} {S : Nat → Prop} {b : Nat} {l : List El} {next since heard : Int} {v : Value} {r : List Asn} (h : St W S w (cellA b [v, .int .i64 next, .int .i64 since, .int .i64 heard] :: rowA 4 v l.length (encs l) :: r)) : St W S w (refA b ⟨l, next, since, heard⟩ :: r) :=
  St.ex (fun v => sepA [cellA b [v, .int .i64 next, .int .i64 since, .int .i64 heard], rowA 4 v l.length (encs l)]) v (St.join [_, _] r h)

theorem rnew_any (w : World) : Calls Try.prog 17 #[] w fun e w' => ∃ q, e = .returned (.pointer (some ⟨q, 0, none⟩)) ∧ St w none0 w' [refA q s0] := by
  have H := ((St.zero w).row_nil (size := 4)).alloc [.slice none 0 0, .int .i64 1, .int .i64 (-1), .int .i64 0] 43
  have H1 := ref_shut (l := []) (r := []) H
  clear H
  replace H1 := Lib.hid H1
  go_enter Try.func17, Try.ntmps17
  go_wp2_with fail
  go_ret
  exact ⟨_, rfl, H1.out⟩

theorem rtick_any (q : Nat) (s : Ln) (w : World) (S : Nat → Prop) (h : (refA q s).holds w S) (hs : s.since ≤ 1000000) :
    Calls Try.prog 27 #[.pointer (some ⟨q, 0, none⟩)] w (Fin w S (.tuple #[]) [refA q (tickS s)]) := by
  obtain ⟨l, next, since, heard⟩ := s
  have H0 : St w S w [refA q ⟨l, next, since, heard⟩] := St.start (Sep.one h)
  obtain ⟨a, cap, H⟩ := ref_parts H0
  obtain ⟨z, c, f⟩ := H.box 0 rfl
  simp only at hs c
  unfold tickS
  simp only
  by_cases h0 : 0 ≤ since
  · have q0 : decide (0 ≤ since) = true := decide_eq_true h0
    rw [if_pos h0]
    have H1 := ref_shut (r := []) (H.set 0 rfl 2 (.int .i64 (since + 1)) (by simp))
    replace H := Lib.hid H; replace H0 := Lib.hid H0; replace H1 := Lib.hid H1
    go_enter Try.func27, Try.ntmps27
    go_wp2_with fail
    go_end0
    exact ⟨rfl, H1.out⟩
  · have q0 : decide (0 ≤ since) = false := decide_eq_false h0
    rw [if_neg h0]
    replace H := Lib.hid H; replace H0 := Lib.hid H0
    go_enter Try.func27, Try.ntmps27
    go_wp2_with fail
    go_end0
    exact ⟨rfl, H0.out⟩

theorem els_at {w : World} {a : Option Addr} {x : El} {l : List El} (h : Rd w a (encs (x :: l))) :
    ∃ b off, a = some ⟨b, off, none⟩ ∧ b < w.heap.size ∧ w.cell? ⟨b, off, none⟩ = some (.int .i64 x.1) ∧ w.cell? ⟨b, off + 1, none⟩ = some (.int .i64 x.2.1) ∧ w.cell? ⟨b, off + 2, none⟩ = some (.int .i64 x.2.2.1) ∧ w.cell? ⟨b, off + 3, none⟩ = some (.int .i64 x.2.2.2) := by
  obtain ⟨b, off, rfl, hb, hc⟩ := Rd.rows enc_len (by omega) h rfl (by simp)
  have e := hc 0 (by simp)
  exact ⟨b, off, rfl, hb, by simpa using e 0 _ rfl, by simpa using e 1 _ rfl, by simpa using e 2 _ rfl, by simpa using e 3 _ rfl⟩

set_option maxRecDepth 100000 in
theorem rdue_any (q : Nat) (s : Ln) (w : World) (S : Nat → Prop) (h : (refA q s).holds w S) :
    Calls Try.prog 21 #[.pointer (some ⟨q, 0, none⟩)] w (Fin w S (.tuple #[val (dueC s), .bool (dueOk s)]) [refA q (dueS s)]) := by
  obtain ⟨l, next, since, heard⟩ := s
  have H0 : St w S w [refA q ⟨l, next, since, heard⟩] := St.start (Sep.one h)
  obtain ⟨a, cap, H⟩ := ref_parts H0
  obtain ⟨z, c, f⟩ := H.box 0 rfl
  have R := St.rd (by omega) 1 H rfl
  obtain ⟨_, _, _, hn, _⟩ := (H.row 1 rfl).rd (by omega)
  unfold dueC dueS dueOk
  simp only at c R hn ⊢
  unfold maxLen at hn
  clear h
  cases l with
  | nil =>
    simp only [List.length_nil, Nat.lt_irrefl, decide_false, Bool.false_and, Bool.false_eq_true, if_false] at c ⊢
    replace H := Lib.hid H; replace H0 := Lib.hid H0
    go_enter Try.func21, Try.ntmps21
    go_wp2_with fail
    refine bodyPost_ret (v := .tuple #[val zero, .bool false]) (by simp [results, Try.results21, go_sem, val, zero]; try rfl) rfl ?_
    exact ⟨rfl, H0.out.skip _⟩
  | cons x l =>
    obtain ⟨gb, off, rfl, hgb, e0, e1, e2, e3⟩ := els_at R
    have hk : ((x :: l).length : Int) = (l.length : Int) + 1 := by simp
    have hk2 : (((l.length : Int) + 1) == 0) = false := by simp; omega
    simp only [List.length_cons] at c hn ⊢
    simp only [show decide (0 < l.length + 1) = true from by simp, Bool.true_and]
    by_cases h1 : 0 ≤ since ∧ since < 4
    · simp only [show decide (0 ≤ since) = true from decide_eq_true h1.1, show decide (since < 4) = true from decide_eq_true h1.2, Bool.true_and, Bool.not_true, Bool.false_eq_true, if_false]
      have k0 : since = 0 ∨ since = 1 ∨ since = 2 ∨ since = 3 := by omega
      clear h1
      rcases k0 with rfl | rfl | rfl | rfl
      all_goals
        replace H := Lib.hid H; replace H0 := Lib.hid H0
        go_enter Try.func21, Try.ntmps21
        go_wp2_with fail
        refine bodyPost_ret (v := .tuple #[val zero, .bool false]) (by simp [results, Try.results21, go_sem, val, zero]; try rfl) rfl ?_
        exact ⟨rfl, H0.out.skip _⟩
    · have h2 : (decide (0 ≤ since) && decide (since < 4)) = false := by simp; omega
      have q0 : (since == 0) = false := by simp; omega
      have q1 : (since == 1) = false := by simp; omega
      have q2 : (since == 2) = false := by simp; omega
      have q3 : (since == 3) = false := by simp; omega
      simp only [h2, Bool.not_false, if_true, show headV (x :: l) = x from rfl]
      clear h2 h1
      have n1 := H.ne_row 0 1 rfl rfl (by omega)
      have n2 : ¬ gb = q := fun e => n1 e.symm
      have H1 := (H.skip (.cells #[.int .i64 0, .int .i64 0, .int .i64 0, .int .i64 0] 29))
      have hq : q < w.heap.size := z
      have H2 := ref_shut (r := []) ((H.set 0 rfl 2 (.int .i64 0) (by simp)).skip (.cells #[.int .i64 x.1, .int .i64 x.2.1, .int .i64 x.2.2.1, .int .i64 x.2.2.2] 29))
      clear H1
      replace H := Lib.hid H; replace H0 := Lib.hid H0; replace H2 := Lib.hid H2
      go_enter Try.func21, Try.ntmps21
      go_wp2_with fail
      refine bodyPost_ret (v := .tuple #[val x, .bool true]) (by simp [results, Try.results21, go_sem, val]) rfl ?_
      exact ⟨rfl, H2.out⟩

theorem encs_tail (x : El) (l : List El) : (encs (x :: l)).drop (1 * 4) = encs l := by rw [encs_drop]; rfl
set_option maxRecDepth 100000 in
theorem rhear_any (q : Nat) (s : Ln) (num : Int) (w : World) (S : Nat → Prop) (h : (refA q s).holds w S) :
    Calls Try.prog 23 #[.pointer (some ⟨q, 0, none⟩), .int .i64 num] w (Fin w S (.bool (hearOk s num)) [refA q (hearS s num)]) := by
  obtain ⟨l, next, since, heard⟩ := s
  have H0 : St w S w [refA q ⟨l, next, since, heard⟩] := St.start (Sep.one h)
  obtain ⟨a, cap, H⟩ := ref_parts H0
  obtain ⟨z, c, f⟩ := H.box 0 rfl
  have R := St.rd (by omega) 1 H rfl
  obtain ⟨_, _, _, hn, _⟩ := (H.row 1 rfl).rd (by omega)
  unfold hearOk hearS hearOk
  simp only at c R hn ⊢
  unfold maxLen at hn
  clear h
  cases l with
  | nil =>
    simp only [List.length_nil, Nat.lt_irrefl, decide_false, Bool.false_and, Bool.false_eq_true, if_false] at c ⊢
    replace H := Lib.hid H; replace H0 := Lib.hid H0
    go_enter Try.func23, Try.ntmps23
    go_wp2_with fail
    go_ret
    exact ⟨rfl, H0.out⟩
  | cons x l =>
    obtain ⟨gb, off, rfl, hgb, e0, e1, e2, e3⟩ := els_at R
    have hk : ((x :: l).length : Int) = (l.length : Int) + 1 := by simp
    have hk2 : (((l.length : Int) + 1) == 0) = false := by simp; omega
    obtain ⟨hcp, hcm⟩ := (H.row 1 rfl).roomy
    simp only [List.length_cons] at c hn hcp ⊢
    simp only [show decide (0 < l.length + 1) = true from by simp, Bool.true_and, show headV (x :: l) = x from rfl, List.tail_cons]
    by_cases h1 : x.1 = num
    · simp only [decide_eq_true h1, if_true]
      have q0 : (x.1 != num) = false := by simp [h1]
      clear h1
      by_cases hc1 : cap = 1
      · subst hc1
        have hl : l = [] := List.eq_nil_of_length_eq_zero (by omega)
        subst hl
        have H1 : St w S w [rowA 4 _ _ _, cellA q _] := H.tail0 (k := 1) rfl
        have H2 := (H1.front 1 rfl).set 0 rfl 0 (.slice (some ⟨gb, off, none⟩) 0 0) (by simp)
        have H3 := ref_shut (l := []) (r := []) (H2.set 0 rfl 2 (.int .i64 (-1)) (by simp))
        clear H1 H2
        replace H := Lib.hid H; replace H0 := Lib.hid H0; replace H3 := Lib.hid H3
        go_enter Try.func23, Try.ntmps23
        go_wp2_with fail
        go_ret
        exact ⟨rfl, H3.out⟩
      · have H1 := H.tail (i := 1) (k := 1) rfl (by simp)
        rw [encs_tail] at H1
        simp only [List.length_cons, Nat.add_sub_cancel] at H1
        have H2 := (H1.front 1 rfl).set 0 rfl 0 (.slice (some ⟨gb, off + 4, none⟩) l.length (cap - 1)) (by simp)
        have H3 := ref_shut (r := []) (H2.set 0 rfl 2 (.int .i64 (-1)) (by simp))
        clear H1 H2
        have v1 : 1 ≤ cap := by omega
        replace H := Lib.hid H; replace H0 := Lib.hid H0; replace H3 := Lib.hid H3
        go_enter Try.func23, Try.ntmps23
        go_wp2_with fail
        go_ret
        exact ⟨rfl, H3.out⟩
    · simp only [decide_eq_false h1, Bool.false_eq_true, if_false]
      have q0 : (x.1 != num) = true := by simp [h1]
      replace H := Lib.hid H; replace H0 := Lib.hid H0
      go_enter Try.func23, Try.ntmps23
      go_wp2_with fail
      go_ret
      exact ⟨rfl, H0.out⟩
set_option maxRecDepth 100000 in
theorem rtake_any (q : Nat) (s : Ln) (c : El) (w : World) (S : Nat → Prop) (h : (refA q s).holds w S) (hs0 : 0 ≤ s.heard) (hs : s.heard ≤ 1000000) (hc : isI64 c.1) :
    Calls Try.prog 25 #[.pointer (some ⟨q, 0, none⟩), val c] w (Fin w S (.tuple #[.bool (fresh s c.1), .bool (conf s c.1)]) [refA q (takeS s c.1)]) := by
  obtain ⟨l, next, since, heard⟩ := s
  obtain ⟨n, k, a, p⟩ := c
  have H0 : St w S w [refA q ⟨l, next, since, heard⟩] := St.start (Sep.one h)
  have hq : q < w.heap.size := by
    obtain ⟨_, _, H3⟩ := ref_parts H0
    exact (H3.box 0 rfl).lt
  have H1 := (H0.alloc [.int .i64 n, .int .i64 k, .int .i64 a, .int .i64 p] 29).front 1 rfl
  obtain ⟨ga, cap, H⟩ := ref_parts H1
  obtain ⟨z, cc, f⟩ := H.box 0 rfl
  unfold isI64 at hc
  simp only at hs cc hs0 hc
  unfold takeS fresh conf val
  simp only
  clear H0 H1 h
  have HE := (ref_shut H).drop 1 rfl
  by_cases h0 : n < 1
  · have q0 : decide (n < 1) = true := decide_eq_true h0
    simp only [show decide (1 ≤ n) = false from decide_eq_false (by omega), Bool.false_and, Bool.false_eq_true, if_false]
    replace H := Lib.hid H; replace HE := Lib.hid HE
    go_enter Try.func25, Try.ntmps25
    go_wp2_with fail
    refine wp_region_near (by kernel_rfl) (by kernel_rfl) ?_
    intro hs
    repeat (go_big_quiet_step (fail))
    refine wpQuiet_nil ?_
    clear hs
    intro w1 hb1
    obtain ⟨ck, fk⟩ := Below.blk hb1 (b := w.heap.size) (by first | (simp; done) | omega | (simp; omega))
    obtain ⟨cq, fq⟩ := Below.blk hb1 (b := q) (by first | (simp; done) | omega | (simp; omega))
    have z1 := hb1.size
    simp only [World.size_alloc] at z1
    have z2 : w.heap.size < w1.heap.size := by omega
    have z3 : q < w1.heap.size := by omega
    go_wp2_with fail
    go_ret2
    exact ⟨rfl, HE.out.thru hb1⟩
  · have q0 : decide (n < 1) = false := decide_eq_false h0
    simp only [show decide (1 ≤ n) = true from decide_eq_true (by omega), Bool.true_and]
    by_cases h1 : heard < n - 1
    · have q1 : decide (heard < n) = true := decide_eq_true (by omega)
      have q2 : (n != heard + 1) = true := by simp; omega
      simp only [show decide (n - 1 = heard) = false from decide_eq_false (by omega), show decide (n - 1 ≤ heard) = false from decide_eq_false (by omega), Bool.false_eq_true, if_false]
      replace H := Lib.hid H; replace HE := Lib.hid HE
      go_enter Try.func25, Try.ntmps25
      go_wp2_with fail
      refine wp_region_near (by kernel_rfl) (by kernel_rfl) ?_
      intro hs
      repeat (go_big_quiet_step (fail))
      refine wpQuiet_nil ?_
      clear hs
      intro w1 hb1
      obtain ⟨ck, fk⟩ := Below.blk hb1 (b := w.heap.size) (by first | (simp; done) | omega | (simp; omega))
      obtain ⟨cq, fq⟩ := Below.blk hb1 (b := q) (by first | (simp; done) | omega | (simp; omega))
      have z1 := hb1.size
      simp only [World.size_alloc] at z1
      have z2 : w.heap.size < w1.heap.size := by omega
      have z3 : q < w1.heap.size := by omega
      go_wp2_with fail
      go_ret2
      exact ⟨rfl, HE.out.thru hb1⟩
    · simp only [show decide (n - 1 ≤ heard) = true from decide_eq_true (by omega)]
      by_cases h2 : n - 1 = heard
      · have q1 : decide (heard < n) = true := decide_eq_true (by omega)
        have q2 : (n != heard + 1) = false := by simp; omega
        simp only [show decide (n - 1 = heard) = true from decide_eq_true h2, if_true]
        clear h2 h1
        replace H := Lib.hid H
        go_enter Try.func25, Try.ntmps25
        go_wp2_with fail
        refine wp_region_near (by kernel_rfl) (by kernel_rfl) ?_
        intro hs
        repeat (go_big_quiet_step (fail))
        refine wpQuiet_nil ?_
        clear hs
        intro w1 hb1
        obtain ⟨ck, fk⟩ := Below.blk hb1 (b := w.heap.size) (by first | (simp; done) | omega | (simp; omega))
        obtain ⟨cq, fq⟩ := Below.blk hb1 (b := q) (by first | (simp; done) | omega | (simp; omega))
        have z1 := hb1.size
        simp only [World.size_alloc] at z1
        have z2 : w.heap.size < w1.heap.size := by omega
        have z3 : q < w1.heap.size := by omega
        go_wp2_with fail
        refine wp_region_near (by kernel_rfl) (by kernel_rfl) ?_
        intro hs
        repeat (go_big_quiet_step (fail))
        refine wpQuiet_nil ?_
        clear hs
        intro w2 hb2
        obtain ⟨ck2, fk2⟩ := Below.blk hb2 (b := w.heap.size) (by first | (simp; done) | omega | (simp; omega))
        obtain ⟨cq2, fq2⟩ := Below.blk hb2 (b := q) (by first | (simp; done) | omega | (simp; omega))
        have z4 := hb2.size
        have z5 : w.heap.size < w2.heap.size := by omega
        have z6 : q < w2.heap.size := by omega
        have HF := ((ref_shut (((H.out.thru hb1).thru hb2).set 0 rfl 3 (.int .i64 n) (by simp))).drop 1 rfl)
        replace HF := Lib.hid HF
        go_wp2_with fail
        go_ret2
        exact ⟨rfl, HF.out⟩
      · have q1 : decide (heard < n) = false := decide_eq_false (by omega)
        simp only [show decide (n - 1 = heard) = false from decide_eq_false h2, Bool.false_eq_true, if_false]
        clear h2
        replace H := Lib.hid H; replace HE := Lib.hid HE
        go_enter Try.func25, Try.ntmps25
        go_wp2_with fail
        refine wp_region_near (by kernel_rfl) (by kernel_rfl) ?_
        intro hs
        repeat (go_big_quiet_step (fail))
        refine wpQuiet_nil ?_
        clear hs
        intro w1 hb1
        obtain ⟨ck, fk⟩ := Below.blk hb1 (b := w.heap.size) (by first | (simp; done) | omega | (simp; omega))
        obtain ⟨cq, fq⟩ := Below.blk hb1 (b := q) (by first | (simp; done) | omega | (simp; omega))
        have z1 := hb1.size
        simp only [World.size_alloc] at z1
        have z2 : w.heap.size < w1.heap.size := by omega
        have z3 : q < w1.heap.size := by omega
        go_wp2_with fail
        refine wp_region_near (by kernel_rfl) (by kernel_rfl) ?_
        intro hs
        repeat (go_big_quiet_step (fail))
        refine wpQuiet_nil ?_
        clear hs
        intro w2 hb2
        go_wp2_with fail
        go_ret2
        exact ⟨rfl, (HE.out.thru hb1).thru hb2⟩

end Go.Proofs.Ytljgmephajocaaa.Ctl
