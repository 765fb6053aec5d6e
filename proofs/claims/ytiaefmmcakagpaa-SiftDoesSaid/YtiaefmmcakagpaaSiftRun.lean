/- The walk of sift's run. -/
import Derived.Test.YtiaefmmcakagpaaSift
import Derived.WalkMore
namespace Go.Proofs.Ytiaefmmcakagpaa.Sift
set_option linter.unusedSimpArgs false
set_option linter.unusedVariables false
open Go Go.RowKit Go.Shelf Go.Proofs.Ytiaefmmcakagpaa
open Go.Proofs.Ytiaefmmcakagpaa.DockWait (El enc val encs dockA dock_open dock_parts dock_shut)
attribute [local irreducible] Calls

abbrev Dg := Int × ByteArray
abbrev dgs (l : List Dg) : List Value := DockDg.encs l
def top : Int := 140737488355327
/-- Those one behind the other from a cursor on; the cursor then; those that go on waiting. -/
def runM : List El → Int → List Dg × Int × List El
  | [], c => ([], c, [])
  | x :: l, c => if x.1 = c + 1 then ((x.1, x.2.1) :: (runM l x.1).1, (runM l x.1).2) else ([], c, x :: l)

set_option maxRecDepth 100000 in
set_option maxHeartbeats 1000000 in
theorem run_any (s : Nat) (c : Int) (l : List El) (v : Value) (xs : List Dg) (hl : l.length ≤ 100000) (hxs : xs.length ≤ 100000) (hc0 : 0 ≤ c) (hc1 : c ≤ top) (hb : ∀ x ∈ l, x.1 ≤ top) (w : World) (S : Nat → Prop) (h : (sepA [rowA 2 v xs.length (dgs xs), siftA s c l]).holds w S) :
    Calls Try.prog 67 #[.pointer (some ⟨s, 0, none⟩), v] w (fun e w' => ∃ v', e = .returned v' ∧ St w S w' [rowA 2 v' (xs ++ (runM l c).1).length (dgs (xs ++ (runM l c).1)), siftA s (runM l c).2.1 (runM l c).2.2]) := by
  obtain ⟨i0, hi, hz, hz1, hz2⟩ := info_parts DelDg.el_info
  obtain ⟨d, H⟩ := sift_parts ((St.unsep 0 (St.start (Sep.one h)) rfl).arr [1, 0] rfl)
  obtain ⟨R, hR⟩ : ∃ R, R = runM l c := ⟨_, rfl⟩
  rw [← hR]
  obtain ⟨n, hn⟩ : ∃ n, n = l.length := ⟨_, rfl⟩
  unfold top at hc1 hb
  clear h
  replace H := Lib.hid H; replace hR := Lib.hid hR; replace hn := Lib.hid hn; replace hb := Lib.hid hb
  go_enter Try.func67, Try.ntmps67
  go_wp2_with fail
  go_step3
  go_wp2_with fail
  go_step3
  go_wp2_with fail
  go_loopg [1, 5, 6] n (fun g v1 _ _ wr => ∃ (pre : List Dg) (l' : List El) (c' : Int), l'.length = g ∧ g ≤ n ∧ 0 ≤ c' ∧ c' ≤ 140737488355327 ∧ Hid (∀ x ∈ l', x.1 ≤ 140737488355327) ∧ Hid (R = (pre ++ (runM l' c').1, (runM l' c').2)) ∧ pre.length + l'.length = n ∧
    St w S wr [cellA s [.pointer (some ⟨d, 0, none⟩), .int .i64 c'], dockA d 33 l', rowA 2 v1 (xs ++ pre).length (dgs (xs ++ pre))])
  case atStart =>
    refine ⟨[], l, c, hn.out.symm, Nat.le_refl _, hc0, hc1, hb.out, Lib.hid (by rw [hR.out, List.nil_append]), by simp [hn.out], ?_⟩
    rw [List.append_nil]
    exact H.out
  case round =>
    obtain ⟨pre, l', c', hg, hgn, hc0', hc1', hb', hR', hpl, hst⟩ := hrel
    obtain ⟨zs, ks, fs⟩ := hst.box 0 rfl
    obtain ⟨SD, hD⟩ := hst.held 1 rfl
    clear H hc0 hc1
    cases l' with
    | nil =>
      have P := DockWait.first_nil d 33 wr SD hD
      clear hD
      replace P := Lib.hid P; replace hst := Lib.hid hst; replace hg := Lib.hid hg; replace hpl := Lib.hid hpl
      go_wp2_with fail
      refine Calls.mono (P.out) ?_
      rintro e w1 ⟨rfl, hb1⟩
      have z1 := Below.size hb1; try simp only [World.size_alloc, World.size_setCell, World.size_drew] at z1
      have H1 := (hst.out.thru hb1)
      clear P
      replace H1 := Lib.hid H1
      go_wp2_with fail
      rw [Exit.noGoto_ret]
      go_ret
      have he := hR'.out
      simp only [runM, List.append_nil] at he
      rw [he]
      exact ⟨_, rfl, (sift_shut (H1.out.skip _)).arr [1, 0] rfl⟩
    | cons x l' =>
      obtain ⟨x1, x2, x3⟩ := x
      have P := DockWait.first_cons d 33 (x1, x2, x3) l' wr SD hD
      have hx1 : x1 ≤ 140737488355327 := hb'.out (x1, x2, x3) (by simp)
      have hw : IntKind.i64.wrap (c' + 1) = c' + 1 := by rw [IntKind.wrap_i64]; omega
      clear hD
      simp only [] at P
      replace P := Lib.hid P; replace hst := Lib.hid hst; replace hg := Lib.hid hg; replace hpl := Lib.hid hpl
      go_wp2_with fail
      refine Calls.mono (P.out) ?_
      rintro e w1 ⟨rfl, hb1⟩
      have z1 := Below.size hb1; try simp only [World.size_alloc, World.size_setCell, World.size_drew] at z1
      obtain ⟨c1_0, f1_0⟩ := Below.blk hb1 (b := s) (by first | (simp; done) | omega | (simp; omega))
      have z1_0 : s < w1.heap.size := (by first | (simp; done) | omega | (simp; omega))
      have H1 := (hst.out.thru hb1).alloc [.int .i64 x1, .string x2, .int .i64 x3] 98
      obtain ⟨z1, k1, f1⟩ := H1.box 0 rfl
      obtain ⟨z2, k2, f2⟩ := H1.box 1 rfl
      clear P
      replace H1 := Lib.hid H1
      go_wp2_with fail
      refine wp_region_near (by kernel_rfl) (by kernel_rfl) ?_
      intro hs
      repeat (go_big_quiet_step (fail))
      refine wpQuiet_nil ?_
      clear hs
      intro w2 hb2
      have H2 := H1.out.thru hb2
      obtain ⟨z3, k3, f3⟩ := H2.box 0 rfl
      obtain ⟨z4, k4, f4⟩ := H2.box 1 rfl
      clear H1 ks fs zs c1_0 f1_0 z1_0 z1 k1 f1 z2 k2 f2 hb1 hb2
      by_cases hq : x1 = c' + 1
      · have q1 : decide (x1 = c' + 1) = true := decide_eq_true hq
        have q2 : (x1 == c' + 1) = true := by simpa using hq
        have P2 := Calls.st_at 2 H2 rfl fun S h => DockWait.pull_cons d 33 (x1, x2, x3) l' _ S h
        have hne := H2.ne_cells 0 1 rfl rfl (by decide)
        have hR2 : R = ((pre ++ [(x1, x2)]) ++ (runM l' x1).1, (runM l' x1).2) := by rw [hR'.out, runM, if_pos hq]; simp
        clear H2
        replace hq := Lib.hid hq
        replace P2 := Lib.hid P2; replace hR2 := Lib.hid hR2
        go_wp2_with fail
        refine Calls.mono P2.out ?_
        rintro e w3 ⟨rfl, H3⟩
        clear P2 k3 k4 f3 f4 z3 z4
        obtain ⟨z5, k5, f5⟩ := H3.box 1 rfl
        obtain ⟨z6, k6, f6⟩ := H3.box 2 rfl
        have H4 := H3.set 2 rfl 1 (.int .i64 x1) (by simp)
        simp only [List.set_cons_succ, List.set_cons_zero, List.eraseIdx_cons_succ, List.eraseIdx_cons_zero] at H4
        obtain ⟨z7, k7, f7⟩ := H4.box 2 rfl
        replace H3 := Lib.hid H3; replace H4 := Lib.hid H4
        have hx3 : xs.length ≤ 100000 := hxs
        have hpl2 := hpl.out
        simp only [List.length_cons] at hpl2
        have hnl : n ≤ 100000 := by rw [hn.out]; exact hl
        have hlen : (xs ++ pre).length ≤ 300000 := by rw [List.length_append]; omega
        go_wp2_with (at_builtin; (refine wpList_appS rfl (.tmp 38) (.tmp 41) _ rfl 45 i0 _ 2 24 Try.underlying48 hi hz hz1 hz2 rfl (by omega) 3 _ (xs ++ pre).length (dgs (xs ++ pre)) rfl H4.out rfl 1 1 [.int .i64 x1, .string x2] rfl rfl (by simp [Value.oneCell']) (by omega) (by omega) ?_; intro v5 w5 H5; replace H5 := Lib.hid H5))
        go_roundg l'.length
        case measure => have := hg.out; simp only [List.length_cons] at this; omega
        case rel =>
          have h6 := (H5.out.arrN [1, 2, 0] rfl).drop 3 rfl
          have hq' := hq.out
          refine ⟨pre ++ [(x1, x2)], l', x1, rfl, by omega, by omega, hx1, Lib.hid (fun x hx => hb'.out x (List.mem_cons_of_mem _ hx)), hR2, by rw [List.length_append]; simp only [List.length_cons, List.length_nil]; omega, ?_⟩
          rw [← List.append_assoc, List.length_append, show dgs (xs ++ pre ++ [(x1, x2)]) = dgs (xs ++ pre) ++ [.int .i64 x1, .string x2] from (DockDg.encs_app _ _).symm]
          exact h6
      · have q1 : decide (x1 = c' + 1) = false := decide_eq_false hq
        have q2 : (x1 == c' + 1) = false := by simpa using hq
        have he : R = (pre, c', (x1, x2, x3) :: l') := by rw [hR'.out, runM, if_neg hq, List.append_nil]
        replace hq := Lib.hid hq
        replace H2 := Lib.hid H2; replace he := Lib.hid he
        go_wp2_with fail
        rw [Exit.noGoto_ret]
        go_ret
        rw [he.out]
        exact ⟨_, rfl, (sift_shut (H2.out.drop 0 rfl)).arr [1, 0] rfl⟩
end Go.Proofs.Ytiaefmmcakagpaa.Sift
