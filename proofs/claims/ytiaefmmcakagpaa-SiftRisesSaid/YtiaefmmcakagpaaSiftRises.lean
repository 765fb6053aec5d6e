/- The walk of SiftRises. -/
import Derived.Test.YtiaefmmcakagpaaSiftRisesP
import Derived.Deep.CutBlock
import Derived.Deep.DeepCutAuto
namespace Go.Proofs.Ytiaefmmcakagpaa.Sift
set_option linter.unusedSimpArgs false
set_option linter.unusedVariables false
open Go Go.RowKit Go.Shelf Go.Proofs.Ytiaefmmcakagpaa
open Go.Proofs.Ytiaefmmcakagpaa.DockWait (El enc val encs dockA dock_open dock_parts dock_shut placed headV)
attribute [local irreducible] Calls

set_option maxRecDepth 200000 in
set_option maxHeartbeats 4000000 in
theorem rises_walk (a : Option Addr) (n cap : Nat) (w : World) (h0 : Fits w (.slice 4 (.cons 1 (.int .i64) (.cons 1 (.int .i64) (.cons 2 (.cons 1 (.int .i64) (.cons 1 .str .nil)) .nil)))) [.slice a n cap]) :
    Calls Try.prog 4 #[.slice a n cap] w (Ret w (.bool true)) := by
  obtain ⟨hn, _, ops, hl, hgood, hL⟩ := ops_in h0
  have PG := fun w' (hb : Below w.heap.size w w') => great_any ops n hl hn a cap w' (hL.below hb) (fun x hx => (hgood x hx).2.2)
  clear h0
  replace hl := Lib.hid hl; replace hL := Lib.hid hL; replace hgood := Lib.hid hgood; replace PG := Lib.hid PG
  go_enter Try.func4, Try.ntmps4
  go_wp2_with fail
  refine Calls.mono (works_law _) ?_
  rintro e w1 ⟨rfl, hb1⟩
  have z1 := Below.size hb1; try simp only [World.size_alloc, World.size_setCell, World.size_drew] at z1
  go_wp2_with fail
  refine Calls.mono (PG.out w1 hb1) ?_
  rintro e w2 ⟨gb, rfl, hb2, hgn⟩
  clear PG
  cases gb with
  | true =>
    clear hgn
    go_wp2_with fail
    go_ret
    exact Ret.mk rfl (Below.thru hb1 hb2)
  | false =>
    have hn150 : n ≤ 150 := hgn rfl
    clear hgn
    have hbw2 : Below w.heap.size w w2 := Below.thru hb1 hb2
    clear hb1 hb2
    go_wp2_with fail
    refine Calls.mono (new_any _) ?_
    rintro e w3 ⟨s, rfl, H3⟩
    have H4 : St w none0 w3 [siftA s 0 []] := ((St.zero w).thru hbw2).add H3
    clear H3
    replace H4 := Lib.hid H4
    go_wp2_with fail
    go_loopg [4, 5, 6, 7, 8, 9, 10, 11, 12, 13, 14] n (fun g v4 v5 v6 v7 _ _ _ _ _ _ _ wr => ∃ (i : Nat) (c inn out : Int) (l : List El), i ≤ n ∧ g = n - i ∧ v7 = .int .i64 i ∧ v4 = .int .i64 inn ∧ v5 = .int .i64 out ∧ v6 = .int .i64 c ∧ inn = out + l.length ∧ 0 ≤ out ∧ inn ≤ i ∧ l.length ≤ 32 ∧
      Hid (Ok c l) ∧ Hid (∀ x ∈ l, PutBy ops i (dg x)) ∧ St w none0 wr [siftA s c l])
    case atStart => exact ⟨0, 0, 0, 0, [], by omega, by omega, rfl, rfl, rfl, rfl, by simp, by omega, by omega, by simp, Lib.hid ⟨by omega, by unfold top; omega, by simp, List.Pairwise.nil⟩, Lib.hid (by simp), H4.out⟩
    case round =>
      obtain ⟨i, c, inn, out, l, hi, hg, rfl, rfl, rfl, rfl, hcnt, hout, hinn, hl32, hok, hput, hst⟩ := hrel
      clear H4 hbw2
      by_cases hlt : i < n
      · have hil : i < ops.length := by have := hl.out; omega
        obtain ⟨b, off, rfl, hb, hc⟩ := ops_at (hL.out.of_st hst) hl.out (by omega)
        obtain ⟨e0, e1, e2, e3⟩ := hc i hil
        have hog := hgood.out ops[i] (List.getElem_mem hil)
        have hoi : ops[i]? = some ops[i] := List.getElem?_eq_getElem hil
        clear hc
        generalize ops[i] = o at *
        obtain ⟨ok, ot, on, od⟩ := o
        simp only at e0 e1 e2 e3 hog
        have H1 := hst.alloc [.int .i64 ok, .int .i64 ot, .int .i64 on, .string od] 47
        obtain ⟨z1, k1, f1⟩ := H1.box 0 rfl
        clear hst
        replace H1 := Lib.hid H1; replace hoi := Lib.hid hoi; replace hog := Lib.hid hog; replace hg := Lib.hid hg; replace hcnt := Lib.hid hcnt
        go_upto_if 32 with fail
        go_cut [4, 9, 10, 11] (fun v4 v9 _ _ wx => ∃ (inn' : Int) (ds : List Dg) (c' : Int) (l' : List El), v4 = .int .i64 inn' ∧ inn' ≤ (i : Int) + 1 ∧ Hid (After ops i ⟨ok, ot, on, od⟩ c out inn' ds c' l') ∧
          St w none0 wx [rowA 2 v9 ds.length (dgs ds), siftA s c' l', cellA wr.heap.size [.int .i64 ok, .int .i64 ot, .int .i64 on, .string od]])
        case first =>
          by_cases hk : ok < 3
          · have q1 : decide (ok < 3) = true := decide_eq_true hk
            have P := ex_at 1 H1.out rfl fun S h => put_any s c l (on, od) ot hl32 hok.out.c0 hok.out.c1 hok.out.pos _ S h
            have hcase := put_case (on, od) ot hok.out hl32
            generalize putM c l (on, od) ot = R at *
            obtain ⟨⟨what, ds⟩, c', l'⟩ := R
            simp only at P
            replace hcase := Lib.hid hcase
            replace P := Lib.hid P
            go_wp2_with fail
            refine Calls.mono P.out ?_
            rintro e w4 ⟨m, rfl, H2⟩
            obtain ⟨am, cm, rfl, _⟩ := St.slice (by omega) 0 H2 rfl
            obtain ⟨z2, k2, f2⟩ := H2.box 2 rfl
            clear P
            have hlim : ds.length ≤ 100000 := by
              cases hcase.out with
              | no _ _ e => cases e; simp
              | yes k _ _ hr _ _ => have h1 : ds = _ := hr.out; have h2 := lay_len (on, od) ot l; rw [h1, List.length_map, List.length_take]; omega
            cases hcase.out with
            | no hf hw e =>
              have e1 : ds = [] ∧ c' = c ∧ l' = l := by cases e; exact ⟨rfl, rfl, rfl⟩
              obtain ⟨rfl, rfl, rfl⟩ := e1
              clear e
              have w1 : 2 ≤ what := hw.1
              clear hw hf hcase
              have t0 : decide (what = 0) = false := decide_eq_false (by omega)
              have t1 : (what == 0) = false := by simp; omega
              have t2 : decide (what = 1) = false := decide_eq_false (by omega)
              have t3 : (what == 1) = false := by simp; omega
              replace w1 := Lib.hid w1
              replace hk := Lib.hid hk
              go_wp2_with fail
              refine wp_region_near (by kernel_rfl) (by kernel_rfl) ?_
              intro hs
              repeat (go_big_quiet_step (fail))
              refine wpQuiet_nil ?_
              clear hs
              intro w5 hb5
              go_wp2_with fail
              go_meet
              exact ⟨inn, [], c', l', rfl, by omega, Lib.hid (After.mk' hok.out (Rel.zero c' l') hl32 (by omega) hcnt.out hput.out (by intro h3; have := hk.out; simp at h3; omega)), (H2.thru hb5)⟩
            | yes k hf hw hr hn hs =>
              have hr' : Rel c (lay (on, od) ot l) (ds, c', l') k := hr
              have hs' : l'.length ≤ 32 := hs
              have hw' : what = if on = c + 1 then 0 else 1 := hw
              have hn' : on = c + 1 → ds.head? = some (on, od) := hn
              have hA : After ops i ⟨ok, ot, on, od⟩ c out (inn + 1) ds c' l' := by
                refine After.mk' (lay_ok (on, od) ot hok.out hf) hr' hs' ?_ ?_ ?_ (by intro h3; have : 3 ≤ ok := h3; omega)
                · rw [lay_len]; omega
                · rw [lay_len, hcnt.out]; omega
                · intro x hx
                  rcases lay_mem hx with rfl | hx
                  · exact ⟨i, _, by omega, hoi.out, hk, rfl⟩
                  · exact hput.out x hx
              have hi0 : 0 ≤ inn := by have := hcnt.out; omega
              clear hr hs hw hn hr' hs' hf hcase
              by_cases hq : on = c + 1
              · rw [if_pos hq] at hw'
                subst hw'
                cases ds with
                | nil => have := hn' hq; simp at this
                | cons d t =>
                  have hd := hn' hq
                  simp only [List.head?_cons, Option.some.injEq] at hd
                  subst hd
                  obtain ⟨b5, off5, rfl, hb5, hc5⟩ := dgs_at (St.rd (by omega) 0 H2 rfl) rfl (by simp)
                  obtain ⟨g0, g1⟩ := hc5 0 (by simp)
                  have t0 : decide ((on, od) :: t = []) = false := by simp
                  have t1 : (((on, od) :: t).length : Int) = (t.length : Int) + 1 := by simp
                  have t2 : decide ((t.length : Int) + 1 = 0) = false := decide_eq_false (by omega)
                  have t3 : (((t.length : Int) + 1) == 0) = false := by simp; omega
                  have ee : eqD on od on od = true := by simp [eqD]
                  simp only [List.getElem_cons_zero, Nat.zero_mul, Nat.add_zero] at g0 g1
                  simp only [List.length_cons] at hlim ⊢
                  clear hc5 hn'
                  replace hq := Lib.hid hq
                  replace hA := Lib.hid hA; replace hk := Lib.hid hk
                  go_wp2_with fail
                  refine wp_region_near (by kernel_rfl) (by kernel_rfl) ?_
                  intro hs
                  repeat (go_big_quiet_step (fail))
                  refine wpQuiet_nil ?_
                  clear hs
                  intro w5 hb5
                  go_wp2_with fail
                  go_meet
                  exact ⟨inn + 1, (on, od) :: t, c', l', rfl, by omega, Lib.hid hA.out, (H2.thru hb5)⟩
              · rw [if_neg hq] at hw'
                subst hw'
                clear hn'
                replace hq := Lib.hid hq
                replace hA := Lib.hid hA; replace hk := Lib.hid hk
                go_wp2_with fail
                refine wp_region_near (by kernel_rfl) (by kernel_rfl) ?_
                intro hs
                repeat (go_big_quiet_step (fail))
                refine wpQuiet_nil ?_
                clear hs
                intro w5 hb5
                go_wp2_with fail
                go_meet
                exact ⟨inn + 1, ds, c', l', rfl, by omega, Lib.hid hA.out, (H2.thru hb5)⟩
          · have q1 : decide (ok < 3) = false := decide_eq_false hk
            have P := ex_at 1 H1.out rfl fun S h => due_any s c l ot (by omega) hok.out.c0 hok.out.c1 hok.out.pos _ S h
            obtain ⟨k, hr⟩ := due_rel c l ot hok.out.up
            have hag := due_again (now := ot) hok.out
            generalize dueM c l ot = R at *
            obtain ⟨ds, c', l'⟩ := R
            have hA : After ops i ⟨ok, ot, on, od⟩ c out inn ds c' l' :=
              After.mk' hok.out hr (by have h1 : l' = _ := hr.rest; show l'.length ≤ 32; rw [h1, List.length_drop]; omega) (by omega) hcnt.out hput.out (fun _ => hag)
            simp only at P
            clear hr hag
            replace P := Lib.hid P; replace hA := Lib.hid hA; replace hk := Lib.hid hk
            go_wp2_with fail
            refine Calls.mono P.out ?_
            rintro e w4 ⟨m, rfl, H2⟩
            clear P
            go_wp2_with fail
            go_meet
            exact ⟨inn, ds, c', l', rfl, by omega, Lib.hid hA.out, H2⟩
        case rest =>
          obtain ⟨inn', ds, c', l', rfl, hinn', hA, hst⟩ := hcut
          obtain ⟨am, cm, rfl, _⟩ := St.slice (by omega) 0 hst rfl
          clear H1 k1 f1 z1 hoi hog hcnt hput hok
          replace hst := Lib.hid hst
          have hcn := hA.out.cnt
          have hds := hA.out.small
          have hbd : out + (ds.length : Int) ≤ 151 := by omega
          have hbd2 : (ds.length : Int) ≤ 100 := by omega
          have hrd := (fun ws (h : Below wc.heap.size wc ws) => (St.rd (by omega) 0 (hst.out.thru h) rfl : Rd ws am (dgs ds)))
          replace hcn := Lib.hid hcn; replace hds := Lib.hid hds; replace hrd := Lib.hid hrd
          go_wp2_with fail
          go_loopg [5, 6, 12, 13, 14] ds.length (fun g v5 v6 v12 _ _ ws => ∃ q : Nat, q ≤ ds.length ∧ g = ds.length - q ∧ v5 = .int .i64 (out + q) ∧ v6 = .int .i64 (dgN c (ds.take q)) ∧ v12 = .int .i64 q ∧ Below wc.heap.size wc ws)
          case atStart => exact ⟨0, by omega, by omega, by simp, by simp [dgN], rfl, Below.refl _ _⟩
          case round =>
            obtain ⟨q, hq, hgq, rfl, rfl, rfl, hbq⟩ := hrel
            by_cases hql : q < ds.length
            · have hnx := hA.out.next hql
              obtain ⟨jw, ow, hjw, how, hkw, hdw⟩ := hA.out.put ds[q] (List.getElem_mem hql)
              have hs2 : dgN c (ds.take (q + 1)) = ds[q].1 := by rw [List.take_succ_eq_append_getElem hql, dgN_snoc]
              have hjl : jw < ops.length := by have := hl.out; omega
              rw [List.getElem?_eq_getElem hjl, Option.some.injEq] at how
              generalize dgN c (ds.take q) = lst at *
              replace hgq := Lib.hid hgq; replace hnx := Lib.hid hnx; replace how := Lib.hid how; replace hs2 := Lib.hid hs2
              go_wp2_with fail
              go_loopg [13, 14] (i + 1) (fun g v13 v14 wt => ∃ (j : Nat) (f : Bool), j ≤ i + 1 ∧ g = i + 1 - j ∧ v13 = .bool f ∧ v14 = .int .i64 j ∧ (jw < j → f = true) ∧ Below wc.heap.size wc wt)
              case atStart => exact ⟨0, false, by omega, by omega, rfl, rfl, by omega, hbq⟩
              case round =>
                obtain ⟨j, f, hj, hgj, rfl, rfl, hf, hbj⟩ := hrel
                by_cases hjl2 : j < i + 1
                · have hjo : j < ops.length := by have := hl.out; omega
                  obtain ⟨_, _, e, hb6, hc6⟩ := ops_at (hL.out.of_st (hst.out.thru hbj)) hl.out (by omega)
                  cases e
                  obtain ⟨i0, i1, i2, i3⟩ := hc6 j hjo
                  obtain ⟨bm, om, rfl, hbm, hcm⟩ := dgs_at (hrd.out wr hbj) rfl (by omega)
                  obtain ⟨g0, g1⟩ := hcm q hql
                  have hjj : jw = j → ops[j] = ow := by rintro rfl; exact how.out
                  clear hc6 hcm
                  generalize ops[j] = oj at *
                  generalize ds[q] = dq at *
                  obtain ⟨jk, jt, jn, jd⟩ := oj
                  obtain ⟨dn, dd⟩ := dq
                  simp only at i0 i1 i2 i3 g0 g1
                  have hdo : jw = j → jk < 3 ∧ jn = dn ∧ jd = dd := by
                    intro e
                    have e1 := hjj e
                    subst e1
                    simp only [Op.d] at hdw hkw
                    cases hdw
                    exact ⟨hkw, rfl, rfl⟩
                  have hq1 : (0 : Int) ≤ j ∧ (0 : Int) ≤ q := ⟨by omega, by omega⟩
                  have hq2 : (j : Int) < n ∧ (q : Int) < ds.length := ⟨by omega, by omega⟩
                  clear hjj hdw hkw
                  replace hdo := Lib.hid hdo; replace hgj := Lib.hid hgj; replace hf := Lib.hid hf; replace hj := Lib.hid hj
                  cases f with
                  | true =>
                    go_wp2_with fail
                    refine wp_region_near (by kernel_rfl) (by kernel_rfl) ?_
                    intro hs
                    repeat (go_big_quiet_step (fail))
                    refine wpQuiet_nil ?_
                    clear hs
                    intro w5 hb5
                    go_wp2_with fail
                    go_roundg (i + 1 - (j + 1))
                    case measure => have := hgj.out; omega
                    case rel => exact ⟨j + 1, true, by omega, rfl, rfl, by go_num, fun _ => rfl, (by repeat (first | with_reducible exact Below.refl _ _ | (with_reducible refine Below.al ?_) | (with_reducible refine Below.drew ?_) | (with_reducible refine Below.set ?_ (by first | (simp; done) | omega | (simp; omega))) | (with_reducible refine Below.thru ?_ (by assumption)) | (with_reducible refine Below.chg ?_ (by assumption) (by first | (simp; done) | omega | (simp; omega)))))⟩
                  | false =>
                    by_cases hk3 : jk < 3
                    · have q3 : decide (jk < 3) = true := decide_eq_true hk3
                      by_cases c1 : jn = dn
                      · have c1' : decide (jn = dn) = true := decide_eq_true c1
                        subst c1
                        by_cases c2 : jd.toList = dd.toList
                        · have c2' : decide (jd.toList = dd.toList) = true := decide_eq_true c2
                          go_wp2_with fail
                          refine wp_region_near (by kernel_rfl) (by kernel_rfl) ?_
                          intro hs
                          repeat (go_big_quiet_step (fail))
                          refine wpQuiet_nil ?_
                          clear hs
                          intro w5 hb5
                          go_wp2_with fail
                          go_roundg (i + 1 - (j + 1))
                          case measure => have := hgj.out; omega
                          case rel => exact ⟨j + 1, true, by omega, rfl, rfl, by go_num, fun _ => rfl, (by repeat (first | with_reducible exact Below.refl _ _ | (with_reducible refine Below.al ?_) | (with_reducible refine Below.drew ?_) | (with_reducible refine Below.set ?_ (by first | (simp; done) | omega | (simp; omega))) | (with_reducible refine Below.thru ?_ (by assumption)) | (with_reducible refine Below.chg ?_ (by assumption) (by first | (simp; done) | omega | (simp; omega)))))⟩
                        · have c2' : decide (jd.toList = dd.toList) = false := decide_eq_false c2
                          have hnj : jw = j → false = true := fun e => absurd (congrArg ByteArray.toList (hdo.out e).2.2) c2
                          replace hnj := Lib.hid hnj
                          go_wp2_with fail
                          refine wp_region_near (by kernel_rfl) (by kernel_rfl) ?_
                          intro hs
                          repeat (go_big_quiet_step (fail))
                          refine wpQuiet_nil ?_
                          clear hs
                          intro w5 hb5
                          go_wp2_with fail
                          go_roundg (i + 1 - (j + 1))
                          case measure => have := hgj.out; omega
                          case rel => exact ⟨j + 1, false, by omega, rfl, rfl, by go_num, fun h => (Nat.lt_or_eq_of_le (Nat.le_of_lt_succ h)).elim hf.out hnj.out, (by repeat (first | with_reducible exact Below.refl _ _ | (with_reducible refine Below.al ?_) | (with_reducible refine Below.drew ?_) | (with_reducible refine Below.set ?_ (by first | (simp; done) | omega | (simp; omega))) | (with_reducible refine Below.thru ?_ (by assumption)) | (with_reducible refine Below.chg ?_ (by assumption) (by first | (simp; done) | omega | (simp; omega)))))⟩
                      · have c1' : decide (jn = dn) = false := decide_eq_false c1
                        have hnj : jw = j → false = true := fun e => absurd (hdo.out e).2.1 c1
                        replace hnj := Lib.hid hnj
                        go_wp2_with fail
                        refine wp_region_near (by kernel_rfl) (by kernel_rfl) ?_
                        intro hs
                        repeat (go_big_quiet_step (fail))
                        refine wpQuiet_nil ?_
                        clear hs
                        intro w5 hb5
                        go_wp2_with fail
                        go_roundg (i + 1 - (j + 1))
                        case measure => have := hgj.out; omega
                        case rel => exact ⟨j + 1, false, by omega, rfl, rfl, by go_num, fun h => (Nat.lt_or_eq_of_le (Nat.le_of_lt_succ h)).elim hf.out hnj.out, (by repeat (first | with_reducible exact Below.refl _ _ | (with_reducible refine Below.al ?_) | (with_reducible refine Below.drew ?_) | (with_reducible refine Below.set ?_ (by first | (simp; done) | omega | (simp; omega))) | (with_reducible refine Below.thru ?_ (by assumption)) | (with_reducible refine Below.chg ?_ (by assumption) (by first | (simp; done) | omega | (simp; omega)))))⟩
                    · have q3 : decide (jk < 3) = false := decide_eq_false hk3
                      go_wp2_with fail
                      refine wp_region_near (by kernel_rfl) (by kernel_rfl) ?_
                      intro hs
                      repeat (go_big_quiet_step (fail))
                      refine wpQuiet_nil ?_
                      clear hs
                      intro w5 hb5
                      go_wp2_with fail
                      go_roundg (i + 1 - (j + 1))
                      case measure => have := hgj.out; omega
                      case rel => exact ⟨j + 1, false, by omega, rfl, rfl, by go_num, fun h => (Nat.lt_or_eq_of_le (Nat.le_of_lt_succ h)).elim hf.out fun h => absurd (hdo.out h).1 (by omega), (by repeat (first | with_reducible exact Below.refl _ _ | (with_reducible refine Below.al ?_) | (with_reducible refine Below.drew ?_) | (with_reducible refine Below.set ?_ (by first | (simp; done) | omega | (simp; omega))) | (with_reducible refine Below.thru ?_ (by assumption)) | (with_reducible refine Below.chg ?_ (by assumption) (by first | (simp; done) | omega | (simp; omega)))))⟩
                · have hf1 : f = true := hf (by omega)
                  subst hf1
                  obtain ⟨bm, om, rfl, hbm, hcm⟩ := dgs_at (hrd.out wr hbj) rfl (by omega)
                  obtain ⟨g0, g1⟩ := hcm q hql
                  clear hcm hdw
                  generalize ds[q] = dq at *
                  obtain ⟨dn, dd⟩ := dq
                  simp only at g0 g1
                  have t0 : decide (dn ≤ lst) = false := decide_eq_false (by have := hnx.out; simp only at this; omega)
                  have hq1 : (0 : Int) ≤ q := by omega
                  have hq2 : (q : Int) < ds.length := by omega
                  replace hgj := Lib.hid hgj; replace hf := Lib.hid hf
                  go_wp2_with fail
                  go_roundg (ds.length - (q + 1))
                  case measure => have := hgq.out; omega
                  case rel => exact ⟨q + 1, by omega, rfl, by go_num, by rw [hs2.out], by go_num, (by repeat (first | with_reducible exact Below.refl _ _ | (with_reducible refine Below.al ?_) | (with_reducible refine Below.drew ?_) | (with_reducible refine Below.set ?_ (by first | (simp; done) | omega | (simp; omega))) | (with_reducible refine Below.thru ?_ (by assumption)) | (with_reducible refine Below.chg ?_ (by assumption) (by first | (simp; done) | omega | (simp; omega)))))⟩
            · have hq2 : q = ds.length := by omega
              subst hq2
              rw [List.take_length]
              have hH := hst.out.thru hbq
              have hcur : dgN c ds = c' := hA.out.cur.symm
              rw [hcur]
              have hcn2 : inn' = out + ds.length + l'.length := hcn.out
              have hl2 : (l'.length : Int) ≤ 32 := by have := hA.out.len; omega
              subst hcn2
              clear hrd hcur hcn hbq
              obtain ⟨z3, k3, f3⟩ := hH.box 2 rfl
              obtain ⟨S1, hS1⟩ := hH.held 1 rfl
              have P1 := len_any s c' l' _ S1 hS1
              clear hS1
              replace hH := Lib.hid hH; replace P1 := Lib.hid P1; replace hgq := Lib.hid hgq
              go_wp2_with fail
              refine Calls.mono (P1.out) ?_
              rintro e w4 ⟨rfl, hb4⟩
              have z4 := Below.size hb4; try simp only [World.size_alloc, World.size_setCell, World.size_drew] at z4
              clear P1
              have hH4 := hH.out.thru hb4
              obtain ⟨z4, k4, f4⟩ := hH4.box 2 rfl
              obtain ⟨S1, hS1⟩ := hH4.held 1 rfl
              have P1 := len_any s c' l' _ S1 hS1
              have t0 : decide ((32 : Int) < (l'.length : Int)) = false := decide_eq_false (by omega)
              clear hS1 hH k3 f3 z3
              replace hH4 := Lib.hid hH4; replace P1 := Lib.hid P1
              go_wp2_with fail
              refine Calls.mono (P1.out) ?_
              rintro e w5 ⟨rfl, hb5⟩
              have z5 := Below.size hb5; try simp only [World.size_alloc, World.size_setCell, World.size_drew] at z5
              clear P1
              have hH5 := hH4.out.thru hb5
              obtain ⟨z5, k5, f5⟩ := hH5.box 2 rfl
              obtain ⟨S1, hS1⟩ := hH5.held 1 rfl
              have P1 := cursor_any s c' l' _ S1 hS1
              clear hS1 hH4 k4 f4 z4
              replace hH5 := Lib.hid hH5; replace P1 := Lib.hid P1
              go_wp2_with fail
              refine Calls.mono (P1.out) ?_
              rintro e w6 ⟨rfl, hb6⟩
              have z6 := Below.size hb6; try simp only [World.size_alloc, World.size_setCell, World.size_drew] at z6
              clear P1
              have hH6 := hH5.out.thru hb6
              obtain ⟨z6, k6, f6⟩ := hH6.box 2 rfl
              clear hH5 k5 f5 z5
              by_cases hk3 : ok < 3
              · have q1 : decide ((3 : Int) ≤ ok) = false := decide_eq_false (by omega)
                replace hH6 := Lib.hid hH6
                go_wp2_with fail
                go_roundg (n - (i + 1))
                case measure => have := hg.out; omega
                case rel => exact ⟨i + 1, c', out + ds.length + l'.length, out + ds.length, l', by omega, rfl, by go_num, rfl, rfl, rfl, rfl, by omega, by go_num, hA.out.len, Lib.hid hA.out.ok, Lib.hid fun x hx => (hA.out.puts x hx).more, (hH6.out.drop 0 rfl).drops 1⟩
              · have q1 : decide ((3 : Int) ≤ ok) = true := decide_eq_true (by omega)
                have hAA := hA.out
                have P1 := ex_at 1 hH6 rfl fun S h => due_any s c' l' ot (by have := hAA.len; omega) hAA.ok.c0 hAA.ok.c1 hAA.ok.pos _ S h
                rw [hAA.due (by simp only; omega)] at P1
                simp only at P1
                clear hAA hH6
                replace P1 := Lib.hid P1
                go_wp2_with fail
                refine Calls.mono P1.out ?_
                rintro e w7 ⟨v7, rfl, H7⟩
                obtain ⟨a7, c7, rfl, _⟩ := St.slice (by omega) 0 H7 rfl
                clear P1
                replace H7 := Lib.hid H7
                go_wp2_with fail
                go_roundg (n - (i + 1))
                case measure => have := hg.out; omega
                case rel => exact ⟨i + 1, c', out + ds.length + l'.length, out + ds.length, l', by omega, rfl, by go_num, rfl, rfl, rfl, rfl, by omega, by go_num, hA.out.len, Lib.hid hA.out.ok, Lib.hid fun x hx => (hA.out.puts x hx).more, (H7.out.drop 0 rfl).drops 1⟩
      · go_wp2_with fail
        go_ret
        exact hst.ret rfl
end Go.Proofs.Ytiaefmmcakagpaa.Sift
