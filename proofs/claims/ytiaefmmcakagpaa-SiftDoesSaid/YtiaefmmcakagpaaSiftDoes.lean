/- The walk of SiftDoes: any datagrams, that wait till any times, are kept and released as the chapter says. -/
import Derived.Test.YtiaefmmcakagpaaSiftRefL
import Derived.Deep.CutBlock
import Derived.Deep.DeepCutAuto
namespace Go.Proofs.Ytiaefmmcakagpaa.Sift
set_option linter.unusedSimpArgs false
set_option linter.unusedVariables false
open Go Go.RowKit Go.Shelf Go.Proofs.Ytiaefmmcakagpaa
open Go.Proofs.Ytiaefmmcakagpaa.DockWait (El enc val encs dockA dock_open dock_parts dock_shut placed headV)
attribute [local irreducible] Calls

theorem put_none (d : Dg) (till : Int) (w : World) : Calls Try.prog 22 #[.pointer none, .agg #[.int .i64 d.1, .string d.2], .int .i64 till] w (Ret w (.tuple #[.int .i64 2, .slice none 0 0])) := by
  have P := fun w => fits_none d.1 w
  obtain ⟨d1, d2⟩ := d
  simp only at P ⊢
  replace P := Lib.hid P
  go_enter Try.func22, Try.ntmps22
  go_wp2_with fail
  refine Calls.mono (P.out _) ?_
  rintro e w1 ⟨rfl, hb1⟩
  have z1 := Below.size hb1; try simp only [World.size_alloc, World.size_setCell, World.size_drew] at z1
  go_wp2_with fail
  go_ret2
  exact Ret.mk rfl (by repeat (first | with_reducible exact Below.refl _ _ | (with_reducible refine Below.al ?_) | (with_reducible refine Below.drew ?_) | (with_reducible refine Below.set ?_ (by first | (simp; done) | omega | (simp; omega))) | (with_reducible refine Below.thru ?_ (by assumption)) | (with_reducible refine Below.chg ?_ (by assumption) (by first | (simp; done) | omega | (simp; omega)))))
theorem cursor_st {W w : World} {S0 : Nat → Prop} {s : Nat} {c : Int} {l : List El} {r : List Asn} (H : St W S0 w (siftA s c l :: r)) : Calls Try.prog 25 #[.pointer (some ⟨s, 0, none⟩)] w (Ret w (.int .i64 c)) := by
  obtain ⟨S1, hS1⟩ := H.held 0 rfl
  exact cursor_any s c l w S1 hS1
theorem len_st {W w : World} {S0 : Nat → Prop} {s : Nat} {c : Int} {l : List El} {r : List Asn} (H : St W S0 w (siftA s c l :: r)) : Calls Try.prog 24 #[.pointer (some ⟨s, 0, none⟩)] w (Ret w (.int .i64 l.length)) := by
  obtain ⟨S1, hS1⟩ := H.held 0 rfl
  exact len_any s c l w S1 hS1

set_option maxRecDepth 200000 in
set_option maxHeartbeats 4000000 in
theorem does_walk (a : Option Addr) (n cap : Nat) (w : World) (h0 : Fits w (.slice 4 (.cons 1 (.int .i64) (.cons 1 (.int .i64) (.cons 2 (.cons 1 (.int .i64) (.cons 1 .str .nil)) .nil)))) [.slice a n cap]) :
    Calls Try.prog 5 #[.slice a n cap] w (Ret w (.bool true)) := by
  obtain ⟨hn, _, ops, hl, hgood, hL⟩ := ops_in h0
  have PG := fun w' (hb : Below w.heap.size w w') => great_any ops n hl hn a cap w' (hL.below hb) (fun x hx => (hgood x hx).2.2)
  clear h0
  replace hl := Lib.hid hl; replace hL := Lib.hid hL; replace hgood := Lib.hid hgood; replace PG := Lib.hid PG
  go_enter Try.func5, Try.ntmps5
  go_wp2_with fail
  refine Calls.mono (works_law _) ?_
  rintro e w1 ⟨rfl, hb1⟩
  have z1 := Below.size hb1; try simp only [World.size_alloc, World.size_setCell, World.size_drew] at z1
  go_wp2_with fail
  refine Calls.mono (PG.out w1 hb1) ?_
  rintro e w2 ⟨gb, rfl, hb2, hgn⟩
  clear PG
  cases gb with
  | true =>
    clear hgn
    go_wp2_with fail
    go_ret
    exact Ret.mk rfl (Below.thru hb1 hb2)
  | false =>
    have hn150 : n ≤ 150 := hgn rfl
    clear hgn
    have hbw2 : Below w.heap.size w w2 := Below.thru hb1 hb2
    clear hb1 hb2
    go_wp2_with fail
    refine Calls.mono (new_any _) ?_
    rintro e w3 ⟨s, rfl, H3⟩
    have H4 : St w none0 _ [siftA s 0 [], refA w3.heap.size 0 []] := (refA_shut (List.Perm.refl []) (refS_shut (L := []) rfl ((((((St.zero w).thru hbw2).add H3).row_nil (size := 3)).alloc [.slice none 0 0, .int .i64 0] 55)))).arr [1, 0] rfl
    clear H3 hbw2
    replace H4 := Lib.hid H4
    go_wp2_with fail
    go_loopg [6, 7, 8, 9, 10, 11, 12, 13, 14, 15, 16, 17, 18, 19, 20] n (fun g v6 _ _ _ _ _ _ _ _ _ _ _ _ _ _ wr => ∃ (i : Nat) (c : Int) (l : List El), i ≤ n ∧ Hid (g = n - i) ∧ v6 = .int .i64 i ∧ l.length ≤ 32 ∧ Hid (Ok c l) ∧ Hid (St w none0 wr [siftA s c l, refA w3.heap.size c l]))
    case atStart => exact ⟨0, 0, [], by omega, Lib.hid rfl, rfl, by simp, Lib.hid ⟨by omega, by unfold top; omega, by simp, List.Pairwise.nil⟩, H4⟩
    case round =>
      obtain ⟨i, c, l, hi, hg, rfl, hl32, hok, hst⟩ := hrel
      clear H4
      generalize w3.heap.size = q at *
      by_cases hlt : i < n
      · have hil : i < ops.length := by have := hl.out; omega
        obtain ⟨b, off, rfl, hb, hc⟩ := ops_at (hL.out.of_st hst.out) hl.out (by omega)
        obtain ⟨e0, e1, e2, e3⟩ := hc i hil
        clear hc
        generalize ops[i] = o at *
        obtain ⟨ok, ot, on, od⟩ := o
        simp only at e0 e1 e2 e3
        have H1 : St w none0 _ [siftA s c l, refA q c l, cellA wr.heap.size [.int .i64 ok, .int .i64 ot, .int .i64 on, .string od]] := (hst.out.alloc [.int .i64 ok, .int .i64 ot, .int .i64 on, .string od] 47).arr [1, 2, 0] rfl
        obtain ⟨z1, k1, f1⟩ := H1.box 2 rfl
        clear hst
        replace H1 := Lib.hid H1
        go_upto_if 40 with fail
        go_cut [8, 9, 10, 11, 12, 13, 14] (fun v8 _ _ _ _ _ _ wx => ∃ (c' : Int) (l' : List El), v8 = .bool true ∧ l'.length ≤ 32 ∧ Hid (Ok c' l') ∧ Hid (St w none0 wx [siftA s c' l', refA q c' l']))
        case first =>
          by_cases hk : ok < 3
          · have q1 : decide (ok < 3) = true := decide_eq_true hk
            have P := ex_at 0 H1.out rfl fun S h => put_any s c l (on, od) ot hl32 hok.out.c0 hok.out.c1 hok.out.pos _ S h
            have P2 := fun w' {r : List Asn} (H : St w none0 w' (refA q c l :: r)) => ex_at 0 H rfl fun S h => rput_any q c l (on, od) ot hok.out hl32 _ S h
            have hcase := put_case (on, od) ot hok.out hl32
            have hok2 : Ok (putM c l (on, od) ot).2.1 (putM c l (on, od) ot).2.2 ∧ (putM c l (on, od) ot).2.2.length ≤ 32 ∧ (putM c l (on, od) ot).1.2.length ≤ 1000 := by
              have hlay := lay_len (on, od) ot l
              generalize putM c l (on, od) ot = R at *
              cases hcase with
              | no _ _ e => rw [e]; exact ⟨hok.out, hl32, by simp⟩
              | yes k hf _ hr _ hs => exact ⟨(lay_ok (on, od) ot hok.out hf).rel hr, hs, by rw [show R.1.2 = _ from hr.out, List.length_map, List.length_take]; omega⟩
            generalize putM c l (on, od) ot = R at *
            obtain ⟨⟨what, ds⟩, c', l'⟩ := R
            simp only at P P2 hok2
            clear hcase
            replace P := Lib.hid P; replace P2 := Lib.hid P2; replace hok2 := Lib.hid hok2
            go_wp2_with fail
            refine Calls.mono P.out ?_
            rintro e w4 ⟨m, rfl, H2⟩
            clear P
            obtain ⟨z2, k2, f2⟩ := H2.box 3 rfl
            have P3 := P2.out w4 (H2.front 2 rfl)
            clear H2 P2
            replace P3 := Lib.hid P3
            go_wp2_with fail
            refine Calls.mono P3.out ?_
            rintro e w5 ⟨m2, rfl, H5⟩
            clear P3 k2 f2 z2
            obtain ⟨a1, c1, rfl, _⟩ := St.slice (by omega) 0 H5 rfl
            obtain ⟨a2, c2, rfl, _⟩ := St.slice (by omega) 2 H5 rfl
            obtain ⟨z2, k2, f2⟩ := H5.box 4 rfl
            replace H5 := Lib.hid H5
            go_wp2_with fail
            refine Calls.mono (put_none (on, od) ot _) ?_
            rintro e w6 ⟨rfl, hb6⟩
            have z6 := Below.size hb6; try simp only [World.size_alloc, World.size_setCell, World.size_drew] at z6
            have H6 := H5.out.thru hb6
            have R1 := St.rd (by omega) 0 H6 rfl
            have R2 := St.rd (by omega) 2 H6 rfl
            have PS := same_any ds ds.length rfl (by have := hok2.out.2.2; unfold maxLen; omega) a2 c2 a1 c1 w6 R2 R1
            have t0 : (what == what) = true := by simp
            have t1 : decide (what = what) = true := by simp
            clear H5 R1 R2
            replace H6 := Lib.hid H6; replace PS := Lib.hid PS
            go_wp2_with fail
            refine Calls.mono (PS.out) ?_
            rintro e w7 ⟨rfl, hb7⟩
            have z7 := Below.size hb7; try simp only [World.size_alloc, World.size_setCell, World.size_drew] at z7
            have H7 := H6.out.thru hb7
            clear PS H6
            replace H7 := Lib.hid H7
            go_wp2_with fail
            go_meet
            exact ⟨c', l', rfl, hok2.out.2.1, Lib.hid hok2.out.1, Lib.hid ((H7.out.arr [3, 1, 0, 2, 4] rfl).drops 2)⟩
          · have q1 : decide (ok < 3) = false := decide_eq_false hk
            have HC1 : St w none0 _ [cellA wr.heap.size [.int .i64 ok, .int .i64 ot, .int .i64 on, .string od]] := (H1.out.arr [2, 0, 1] rfl).drops 1
            have hcl : ∀ (s : Cls w none0 [cellA wr.heap.size [.int .i64 ok, .int .i64 ot, .int .i64 on, .string od]]) (o : Nat), s.it.cell? ⟨wr.heap.size, o, none⟩ = [Value.int .i64 ok, .int .i64 ot, .int .i64 on, .string od][o]? := fun s => (s.st.box 0 rfl).cells
            have P := ex_at 0 H1.out.drew rfl fun S h => due_any s c l ot (by omega) hok.out.c0 hok.out.c1 hok.out.pos _ S h
            have P2 := fun w' {r : List Asn} (H : St w none0 w' (refA q c l :: r)) => ex_at 0 H rfl fun S h => rdue_any q c l ot hok.out (by omega) _ S h
            obtain ⟨k, hr⟩ := due_rel c l ot hok.out.up
            have hok2 : Ok (dueM c l ot).2.1 (dueM c l ot).2.2 ∧ (dueM c l ot).2.2.length ≤ 32 ∧ (dueM c l ot).1.length ≤ 1000 := ⟨hok.out.rel hr, by rw [hr.rest, List.length_drop]; omega, by rw [hr.out, List.length_map, List.length_take]; omega⟩
            clear hr
            generalize dueM c l ot = R at *
            obtain ⟨ds, c', l'⟩ := R
            simp only at P P2 hok2
            replace P := Lib.hid P; replace P2 := Lib.hid P2; replace hok2 := Lib.hid hok2; replace HC1 := Lib.hid HC1
            go_wp2_with fail
            haveI := St.ne HC1.out
            refine wp_region_madeC HC1.out [0, 1, 2, 4, 5, 6] [true, true, true, false, true, true, true, false, false, false, false, false, false, false, false, false, false, false] 12 #[true, true, true, false, true, true, true, false, false, false, false, false, false, false, false, false, false, false] (by kernel_rfl) rfl (by kernel_rfl) (by kernel_rfl) rfl (by kernel_rfl) (by kernel_rfl) (by intro c a a' w e h; obtain ⟨t, d⟩ := a; obtain ⟨t', d'⟩ := a'; obtain rfl : d = d' := e; exact h) ?_
            simp only [pickB]
            repeat (go_big_quiet_step (fail))
            refine wpQuiet_nil ?_
            refine held_one (i := 3) (by kernel_rfl) fun K hK => ?_
            simp only [List.drop_succ_cons, List.drop_zero, List.take_succ_cons, List.take_zero]
            go_wp2_with fail
            refine Calls.mono P.out ?_
            rintro e w4 ⟨m, rfl, H4⟩
            have HC4 : St w none0 w4 [cellA wr.heap.size [.int .i64 ok, .int .i64 ot, .int .i64 on, .string od]] := (H4.arr [3, 1, 2, 0] rfl).drops 1
            have P3 := P2.out w4 (H4.front 2 rfl)
            clear P P2 H4
            replace HC4 := Lib.hid HC4; replace P3 := Lib.hid P3
            go_wp2_with fail
            refine hK _ _ HC4.out ?_
            clear hK K
            refine held_one (i := 7) (by kernel_rfl) fun K hK => ?_
            simp only [List.drop_succ_cons, List.drop_zero, List.take_succ_cons, List.take_zero]
            go_wp2_with fail
            refine Calls.mono P3.out ?_
            rintro e w5 ⟨m2, rfl, H5⟩
            have HC5 : St w none0 w5 [cellA wr.heap.size [.int .i64 ok, .int .i64 ot, .int .i64 on, .string od]] := (H5.arr [4, 0, 1, 2, 3] rfl).drops 1
            obtain ⟨a1, c1, rfl, _⟩ := St.slice (by omega) 0 H5 rfl
            obtain ⟨a2, c2, rfl, _⟩ := St.slice (by omega) 2 H5 rfl
            have PS := same_any ds ds.length rfl (by have := hok2.out.2.2; unfold maxLen; omega) a2 c2 a1 c1 w5 (St.rd (by omega) 2 H5 rfl) (St.rd (by omega) 0 H5 rfl)
            clear P3
            replace H5 := Lib.hid H5; replace HC5 := Lib.hid HC5; replace PS := Lib.hid PS
            go_wp2_with fail
            refine hK _ _ HC5.out ?_
            clear hK K
            refine held_one (i := 8) (by kernel_rfl) fun K hK => ?_
            simp only [List.drop_succ_cons, List.drop_zero, List.take_succ_cons, List.take_zero]
            go_wp2_with fail
            refine Calls.mono PS.out ?_
            rintro e w6 ⟨rfl, hb6⟩
            have H6 := Lib.hid (H5.out.thru hb6)
            have HC6 := Lib.hid (HC5.out.thru hb6)
            clear PS H5
            go_wp2_with fail
            refine hK _ _ HC6.out ?_
            clear hK K
            haveI := St.ne HC6.out
            refine calmC HC6.out [9, 10, 11, 12] [false, false, false, false, false, false, false, false, false, true, true, true, true, false, false, false, false, false] 5 9 #[true, true, true, true, true, true, true, true, true, false, false, false, false, false, false, false, false, false] #[true, true, true, true, true, true, true, true, true, true, true, true, true, false, false, false, false, false] rfl (by kernel_rfl) (by kernel_rfl) rfl (by kernel_rfl) (by kernel_rfl) (by intro c a a' w e h; obtain ⟨t, d⟩ := a; obtain ⟨t', d'⟩ := a'; obtain rfl : d = d' := e; exact h) ?_
            simp only [pickB]
            repeat (go_big_quiet_step (fail))
            refine wpQuiet_nil ?_
            refine held_one (i := 13) (by kernel_rfl) fun K hK => ?_
            simp only [List.drop_succ_cons, List.drop_zero, List.take_succ_cons, List.take_zero]
            go_wp2_with fail
            refine Calls.mono (due_none ot _) ?_
            rintro e w7 ⟨rfl, hb7⟩
            have H7 := Lib.hid (H6.out.thru hb7)
            have HC7 := Lib.hid (HC6.out.thru hb7)
            go_wp2_with fail
            refine hK _ _ HC7.out ?_
            clear hK K
            haveI := St.ne HC7.out
            refine calmC HC7.out [14, 15, 16, 17] [false, false, false, false, false, false, false, false, false, false, false, false, false, false, true, true, true, true] 0 4 #[true, true, true, true, true, true, true, true, true, true, true, true, true, true, false, false, false, false] #[true, true, true, true, true, true, true, true, true, true, true, true, true, true, true, true, true, true] rfl (by kernel_rfl) (by kernel_rfl) rfl (by kernel_rfl) (by kernel_rfl) (by intro c a a' w e h; obtain ⟨t, d⟩ := a; obtain ⟨t', d'⟩ := a'; obtain rfl : d = d' := e; exact h) ?_
            simp only [pickB]
            repeat (go_big_quiet_step (fail))
            refine wpQuiet_nil ?_
            refine held_done (by kernel_rfl) ?_
            go_wp2_with fail
            go_meet
            exact ⟨c', l', rfl, hok2.out.2.1, Lib.hid hok2.out.1, Lib.hid ((H7.out.arr [3, 1, 0, 2, 4] rfl).drops 2)⟩
        case rest =>
          obtain ⟨c', l', rfl, hl', hok', hst⟩ := hcut
          clear H1 z1 k1 f1 hok e0 e1 e2 e3
          have P1 := Calls.st_at 0 hst.out rfl fun S h => latest_any s c' l' (by omega) _ S h
          have P2 := fun w' {r : List Asn} (H : St w none0 w' (refA q c' l' :: r)) => (by obtain ⟨S1, hS1⟩ := H.held 0 rfl; exact rlatest_any q c' l' (by omega) w' S1 hS1 : Calls Try.prog 30 #[.pointer (some ⟨q, 0, none⟩)] w' (Ret w' (.tuple #[.int .i64 (lateM l').1, .bool (lateM l').2])))
          generalize lateM l' = R at *
          obtain ⟨lv, lb⟩ := R
          simp only at P1 P2
          clear hst
          replace P1 := Lib.hid P1; replace P2 := Lib.hid P2
          go_wp2_with fail
          refine Calls.mono P1.out ?_
          rintro e w4 ⟨rfl, H4⟩
          have P3 := P2.out w4 (H4.front 1 rfl)
          clear P1 P2
          replace P3 := Lib.hid P3; replace H4 := Lib.hid H4
          go_wp2_with fail
          refine Calls.mono (P3.out) ?_
          rintro e w5 ⟨rfl, hb5⟩
          have z5 := Below.size hb5; try simp only [World.size_alloc, World.size_setCell, World.size_drew] at z5
          have H5 := Lib.hid (H4.out.thru hb5)
          clear P3 H4
          go_wp2_with fail
          refine Calls.mono (latest_none _) ?_
          rintro e w6 ⟨rfl, hb6⟩
          have z6 := Below.size hb6; try simp only [World.size_alloc, World.size_setCell, World.size_drew] at z6
          have H6 := H5.out.thru hb6
          clear H5
          obtain ⟨L, hp, H7⟩ := refA_parts (H6.front 1 rfl)
          obtain ⟨ra, rc, H8⟩ := refS_parts H7
          obtain ⟨z8, k8, f8⟩ := H8.box 0 rfl
          rw [hp.length_eq] at k8
          have H9 := H6
          have PC := fun (s : Near w6.heap.size w6) => cursor_st (H9.thruB (by simp) (Near.near s))
          have PL := fun (s : Near w6.heap.size w6) => len_st (H9.thruB (by simp) (Near.near s))
          have x0 : (c' != c') = false := by simp
          have x1 : ((l'.length : Int) != (l'.length : Int)) = false := by simp
          have x2 : (lv != lv) = false := by simp
          have x3 : (lb != lb) = false := by simp
          clear H7 H8 hp
          replace H6 := Lib.hid H6; replace H9 := Lib.hid H9; replace PC := Lib.hid PC; replace PL := Lib.hid PL
          go_wp2_with fail
          refine wp_region_near (by kernel_rfl) (by kernel_rfl) ?_
          intro hs
          repeat (go_big_quiet_step ((first | (go_at_call 25; exact Calls.near (by simp) (PC.out _)) | (go_at_call 25; exact Calls.near (by simp) (cursor_none _)) | (go_at_call 24; exact Calls.near (by simp) (PL.out _)) | (go_at_call 24; exact Calls.near (by simp) (len_none _)))))
          refine wpQuiet_nil ?_
          clear hs
          intro w9 hb9
          have H10 := H6.out.thruB (by simp) hb9
          clear H6 H9 PC PL
          replace H10 := Lib.hid H10
          go_wp2_with fail
          go_roundg (n - (i + 1))
          case measure => have := hg.out; omega
          case rel => exact ⟨i + 1, c', l', by omega, Lib.hid rfl, by go_num, hl', hok', H10⟩
      · go_wp2_with fail
        go_ret
        exact hst.out.ret rfl
end Go.Proofs.Ytiaefmmcakagpaa.Sift
