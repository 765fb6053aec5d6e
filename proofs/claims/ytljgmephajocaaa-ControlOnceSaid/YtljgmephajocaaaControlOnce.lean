/- The walk of the statement ControlOnce. -/
import Derived.Test.YtljgmephajocaaaControlTwo
import Derived.Deep.CutBlock
import Derived.Deep.DeepCutAuto
namespace Go.Proofs.Ytljgmephajocaaa.Ctl
set_option linter.unusedSimpArgs false
set_option linter.unusedVariables false
open Go Go.RowKit Go.Proofs.Ytljgmephajocaaa Go.Proofs.Ytljgmephajocaaa.DockCtl
attribute [local irreducible] Calls

structure Lop where
  kind : Int
  n : Int
  c : El
def encL (o : Lop) : List Value := [.int .i64 o.kind, .int .i64 o.n, .int .i64 o.c.1, .int .i64 o.c.2.1, .int .i64 o.c.2.2.1, .int .i64 o.c.2.2.2]
def lops (l : List Lop) : List Value := l.flatMap encL
theorem encL_len (o : Lop) : (encL o).length = 6 := rfl
theorem lops_in {w : World} {a : Option Addr} {len cap : Nat} (h : Fits w (.slice 6 (.cons 1 (.int .i64) (.cons 1 (.int .i64) (.cons 4 (.cons 1 (.int .i64) (.cons 1 (.int .i64) (.cons 1 (.int .i64) (.cons 1 (.int .i64) .nil)))) .nil)))) [.slice a len cap]) :
    len ≤ maxLen ∧ (a = none → len = 0) ∧ ∃ l : List Lop, l.length = len ∧ (∀ o ∈ l, isI64 o.n ∧ isI64 o.c.1) ∧ Rd w a (lops l) :=
  rows_in (size := 6) encL (by omega) encL_len (fun cs hf _ => by
    obtain ⟨_, _, rfl, f0, r0⟩ := fits_cons1 hf
    obtain ⟨_, t, rfl, f1, r1⟩ := fits_cons1 r0
    obtain ⟨n0, rfl, _⟩ := fits_int f0
    obtain ⟨n1, rfl, w1⟩ := fits_int f1
    obtain ⟨_, f2, r2⟩ := r1
    obtain ⟨c, hc, wc⟩ := ctl_in f2
    have ht : t = enc c := by
      have h0 : t.drop 4 = [] := r2
      rw [← List.take_append_drop 4 t, hc, h0, List.append_nil]
    exact ⟨⟨n0, n1, c⟩, by rw [ht]; rfl, bounds_i64 w1, wc⟩) h
theorem lops_at {w : World} {a : Option Addr} {l : List Lop} (h : Rd w a (lops l)) {n : Nat} (hn : l.length = n) (h0 : 0 < n) :
    ∃ b off, a = some ⟨b, off, none⟩ ∧ b < w.heap.size ∧ ∀ i (hi : i < l.length), w.cell? ⟨b, off + i * 6, none⟩ = some (.int .i64 l[i].kind) ∧ w.cell? ⟨b, off + i * 6 + 1, none⟩ = some (.int .i64 l[i].n) ∧ w.cell? ⟨b, off + i * 6 + 2, none⟩ = some (.int .i64 l[i].c.1) ∧ w.cell? ⟨b, off + i * 6 + 3, none⟩ = some (.int .i64 l[i].c.2.1) ∧
      w.cell? ⟨b, off + i * 6 + 4, none⟩ = some (.int .i64 l[i].c.2.2.1) ∧ w.cell? ⟨b, off + i * 6 + 5, none⟩ = some (.int .i64 l[i].c.2.2.2) := by
  obtain ⟨b, off, e, hb, hc⟩ := Rd.rows encL_len (by omega) h hn h0
  exact ⟨b, off, e, hb, fun i hi => ⟨hc i hi 0 _ rfl, hc i hi 1 _ rfl, hc i hi 2 _ rfl, hc i hi 3 _ rfl, hc i hi 4 _ rfl, hc i hi 5 _ rfl⟩⟩

/-- All parts. -/
def allA (qa qb : Nat) (T : Tr) (pv sv gv cv : Value) : List Asn :=
  [lineA qa T.a, lineA qb (bL T.h), rowA 4 pv T.put.length (encs T.put), rowA 4 sv T.said.length (encs T.said), rowA 4 gv T.got.length (encs T.got), rowA 1 cv T.cfm.length (i64s T.cfm)]

theorem els_nth {w : World} {a : Option Addr} {l : List El} (h : Rd w a (encs l)) {m : Nat} (hm : m < l.length) : ∃ b off, a = some ⟨b, off, none⟩ ∧ b < w.heap.size := by
  obtain ⟨b, off, rfl, hb, hc⟩ := Rd.rows enc_len (by omega) h rfl (by omega)
  exact ⟨b, off, rfl, hb⟩
theorem els_cells {w : World} {b off : Nat} {l : List El} (h : Rd w (some ⟨b, off, none⟩) (encs l)) {m : Nat} (hm : m < l.length) : b < w.heap.size ∧ w.cell? ⟨b, off + m * 4, none⟩ = some (.int .i64 l[m].1) ∧ w.cell? ⟨b, off + m * 4 + 1, none⟩ = some (.int .i64 l[m].2.1) ∧ w.cell? ⟨b, off + m * 4 + 2, none⟩ = some (.int .i64 l[m].2.2.1) ∧ w.cell? ⟨b, off + m * 4 + 3, none⟩ = some (.int .i64 l[m].2.2.2) := by
  obtain ⟨b', off', e, hb, hc⟩ := Rd.rows enc_len (by omega) h rfl (by omega)
  injection e with e
  injection e with e1 e2
  subst e1 e2
  exact ⟨hb, hc m hm 0 _ rfl, hc m hm 1 _ rfl, hc m hm 2 _ rfl, hc m hm 3 _ rfl⟩
theorem pick_nat (x : Int) : ∃ m : Nat, wrap64 ((IntKind.u64.wrap x).tmod 1000) = (m : Int) := by
  have h0 : 0 ≤ IntKind.u64.wrap x := by unfold IntKind.wrap; simp [IntKind.signed, IntKind.bits]; omega
  obtain ⟨y, hy⟩ : ∃ y : Nat, IntKind.u64.wrap x = (y : Int) := ⟨(IntKind.u64.wrap x).toNat, by omega⟩
  rw [hy]
  refine ⟨y % 1000, ?_⟩
  have h1 : ((y : Int)).tmod 1000 = ((y % 1000 : Nat) : Int) := by rw [Int.tmod_eq_emod_of_nonneg (by omega)]; rfl
  rw [h1]
  have h2 : y % 1000 < 1000 := Nat.mod_lt _ (by omega)
  generalize y % 1000 = z at *
  unfold wrap64
  omega
theorem put_ok {T : Tr} {J : Nat} {c : El} (h : OK T J) (he : putE T.a c = 0) : OK { T with a := putS T.a c, put := T.put ++ [(putN T.a c, c.2)] } (J + 1) := by
  have := ok_put c h
  unfold putT at this
  simp only [if_pos he] at this
  exact this
theorem put_no {T : Tr} {J : Nat} {c : El} (h : OK T J) (he : putE T.a c ≠ 0) : OK { T with a := putS T.a c } (J + 1) := by
  have := ok_put c h
  unfold putT at this
  simp only [if_neg he] at this
  exact this
theorem rows_up {W w : World} {S : Nat → Prop} {v : Value} {l : List El} {x : El} {r : List Asn} (h : St W S w (rowA 4 v (l.length + 1) (encs l ++ enc x) :: r)) : St W S w (rowA 4 v (l ++ [x]).length (encs (l ++ [x])) :: r) := by
  rw [encs_app] at h
  rw [List.length_append]
  exact h

theorem due_ok {T : Tr} {J : Nat} (h : OK T J) (he : dueOk T.a = true) : OK { T with a := dueS T.a, said := T.said ++ [dueC T.a] } (J + 1) := by
  have := ok_due h
  unfold dueT at this
  simp only [if_pos he] at this
  exact this
theorem i64s_up {W w : World} {S : Nat → Prop} {v : Value} {l : List Int} {x : Int} {r : List Asn} (h : St W S w (rowA 1 v (l.length + 1) (i64s l ++ [.int .i64 x]) :: r)) : St W S w (rowA 1 v (l ++ [x]).length (i64s (l ++ [x])) :: r) := by
  rw [List.length_append]
  unfold i64s at *
  rw [List.map_append]
  exact h
theorem take_ok {T : Tr} {J : Nat} {x : El} (h : OK T J) (hx : x ∈ T.put) (hf : fresh (bL T.h) x.1 = true) : OK { T with h := hT T.h x, got := T.got ++ [x] } J ∧ (conf (bL T.h) x.1 = true → x.1 ≤ ((hT T.h x : Nat) : Int)) := by
  have := ok_take x hx h
  unfold takeT at this
  simp only [if_pos hf] at this
  exact this
theorem take_no {T : Tr} {J : Nat} {x : El} (h : OK T J) (hx : x ∈ T.put) (hf : fresh (bL T.h) x.1 = false) : OK { T with h := hT T.h x } J ∧ (conf (bL T.h) x.1 = true → x.1 ≤ ((hT T.h x : Nat) : Int)) := by
  have := ok_take x hx h
  unfold takeT at this
  simp only [hf, Bool.false_eq_true, if_false] at this
  exact this
theorem num_64 {T : Tr} {J : Nat} {x : El} (h : OK T J) (hj : J ≤ 100000) (hx : x ∈ T.put) : isI64 x.1 := by
  obtain ⟨i, hi, rfl⟩ := List.getElem_of_mem hx
  have := h.num i hi
  have := h.lp
  unfold isI64
  omega

theorem int_info : (Try.prog.info? 3).map (fun i => (i.zero, i.size, i.bytes)) = some (some (.int .i64 0), 1, 8) := by kernel_rfl
theorem fresh_conf {h : Nat} {n : Int} (hf : fresh (bL h) n = true) : conf (bL h) n = true := by
  unfold fresh at hf
  unfold conf
  simp only [Bool.and_eq_true, decide_eq_true_eq] at *
  omega
set_option maxRecDepth 100000 in
set_option maxHeartbeats 4000000 in
theorem once_walk (a : Option Addr) (n cap : Nat) (w : World) (h0 : Fits w (.slice 6 (.cons 1 (.int .i64) (.cons 1 (.int .i64) (.cons 4 (.cons 1 (.int .i64) (.cons 1 (.int .i64) (.cons 1 (.int .i64) (.cons 1 (.int .i64) .nil)))) .nil)))) [.slice a n cap]) :
    Calls Try.prog 4 #[.slice a n cap] w (Ret w (.bool true)) := by
  obtain ⟨hn, _, L, hl, hgood, hL⟩ := lops_in h0
  unfold maxLen at hn
  obtain ⟨i0, hi, hz, hz1, hz2⟩ := info_parts DelCtl.el_info
  clear h0
  replace hl := Lib.hid hl; replace hL := Lib.hid hL; replace hgood := Lib.hid hgood
  go_enter Try.func4, Try.ntmps4
  go_wp2_with fail
  refine Calls.mono (works_law _) ?_
  rintro e w1 ⟨rfl, hb1⟩
  have z1 := Below.size hb1; try simp only [World.size_alloc, World.size_setCell, World.size_drew] at z1
  by_cases h300 : 300 < n
  · have q : decide ((300 : Int) < n) = true := decide_eq_true (by omega)
    go_wp2_with fail
    go_ret
    exact Ret.mk rfl (by repeat (first | with_reducible exact Below.refl _ _ | (with_reducible refine Below.al ?_) | (with_reducible refine Below.drew ?_) | (with_reducible refine Below.set ?_ (by first | (simp; done) | omega | (simp; omega))) | (with_reducible refine Below.thru ?_ (by assumption)) | (with_reducible refine Below.chg ?_ (by assumption) (by first | (simp; done) | omega | (simp; omega)))))
  · have qq : decide ((300 : Int) < n) = false := decide_eq_false (by omega)
    have q300 : n ≤ 300 := by omega
    go_wp2_with fail
    refine Calls.mono (new_any _) ?_
    rintro e w2 ⟨qa, rfl, H2⟩
    have H2' : St w none0 w2 [lineA qa s0] := ((St.zero w).thru hb1).add H2
    clear H2
    replace H2' := Lib.hid H2'
    go_wp2_with fail
    refine Calls.mono (new_any _) ?_
    rintro e w3 ⟨qb, rfl, H3⟩
    have H3' : St w none0 w3 (allA qa qb t0 (.slice none 0 0) (.slice none 0 0) (.slice none 0 0) (.slice none 0 0)) := ((((((H2'.out.add H3).row_nil (size := 1)).row_nil (size := 4)).row_nil (size := 4)).row_nil (size := 4)).arr [5, 4, 0, 1, 2, 3] rfl)
    clear H3 H2'
    replace H3' := Lib.hid H3'
    go_wp2_with fail
    go_loopg [5, 6, 7, 8, 9, 10, 11, 12, 13, 14, 15, 16, 17, 18, 19, 20, 21, 22] (n + 100) (fun g pv sv gv cv i _ _ _ _ _ _ _ _ _ _ _ _ _ wr => ∃ (j : Nat) (T : Tr), j ≤ n + 100 ∧ g = n + 100 - j ∧ i = .int .i64 j ∧ Hid (OK T (6 * j)) ∧ Hid (n ≤ j → T.a.l.length ≤ 8 - (j - n)) ∧ St w none0 wr (allA qa qb T pv sv gv cv))
    case atStart => exact ⟨0, t0, by omega, by omega, rfl, ok_0, Lib.hid (by simp [t0, s0]), H3'.out⟩
    case round =>
      obtain ⟨pv, hpv⟩ : ∃ v, v = u5 := ⟨_, rfl⟩
      obtain ⟨sv, hsv⟩ : ∃ v, v = u6 := ⟨_, rfl⟩
      obtain ⟨gv, hgv⟩ : ∃ v, v = u7 := ⟨_, rfl⟩
      obtain ⟨cv, hcv⟩ : ∃ v, v = u8 := ⟨_, rfl⟩
      subst hpv hsv hgv hcv
      obtain ⟨j, T, hj, hg, rfl, hok, hfin, hst⟩ := hrel
      have zw := hst.size
      have hbw := hst.below
      clear H3'
      unfold allA at hst
      obtain ⟨ap, cp, rfl, _⟩ := St.slice (by omega) 2 hst rfl
      obtain ⟨asd, csd, rfl, _⟩ := St.slice (by omega) 3 hst rfl
      obtain ⟨ag, cg, rfl, _⟩ := St.slice (by omega) 4 hst rfl
      obtain ⟨ac, cc, rfl, _⟩ := St.slice (by omega) 5 hst rfl
      have lp := hok.out.lp
      have ls := hok.out.ls
      have lc := hok.out.lc
      have lg := (ok_got hok.out).2.1
      by_cases hlt : j < n + 100
      · have qlt : decide ((j : Int) < (n : Int) + 100) = true := decide_eq_true (by omega)
        by_cases hjn : j < n
        · have qjn : decide ((j : Int) < (n : Int)) = true := decide_eq_true (by omega)
          have qjm : decide ((n : Int) ≤ (j : Int)) = false := decide_eq_false (by omega)
          have hjl : j < L.length := by have := hl.out; omega
          obtain ⟨b, off, rfl, hb, hc⟩ := lops_at (hL.out.below hbw) hl.out (by omega)
          obtain ⟨e0, e1, e2, e3, e4, e5⟩ := hc j hjl
          have hgd := hgood.out L[j] (List.getElem_mem hjl)
          clear hc
          generalize L[j] = ob at *
          obtain ⟨kind, x, k, c0, c1, c2⟩ := ob
          simp only at e0 e1 e2 e3 e4 e5 hgd
          have hst1 := (hst.alloc [.int .i64 kind, .int .i64 x, .int .i64 k, .int .i64 c0, .int .i64 c1, .int .i64 c2] 48)
          clear hst
          replace hst1 := Lib.hid hst1
          obtain ⟨m, hm⟩ := pick_nat x
          replace hm := Lib.hid hm
          go_upto_block 2 with fail
          rw [hm.out]
          clear hm e0 e1 e2 e3 e4 e5
          go_cut [5, 6, 7, 8] (fun pv sv gv cv wx => ∃ T', Hid (OK T' (6 * (j + 1))) ∧ Hid (n ≤ j + 1 → T'.a.l.length ≤ 8 - (j + 1 - n)) ∧ St w none0 wx (allA qa qb T' pv sv gv cv))
          case first =>
            by_cases k2 : kind < 2
            · have q2 : decide (kind < 2) = true := decide_eq_true k2
              as_aux_lemma =>
                have H2 := (hst1.out.alloc [.int .i64 k, .int .i64 c0, .int .i64 c1, .int .i64 c2] 29).front 2 rfl
                have P := put_st (k, c0, c1, c2) (hok.out.gd.1) (by have := hok.out.gd; unfold good at this; omega) (by have := hok.out.gd; unfold good at this; omega) H2
                have hyes := fun he => put_ok (c := (k, c0, c1, c2)) hok.out he
                have hno := fun he => put_no (c := (k, c0, c1, c2)) hok.out he
                obtain ⟨m1, hm1⟩ : ∃ x, putN T.a (k, c0, c1, c2) = x := ⟨_, rfl⟩
                obtain ⟨e1, he1⟩ : ∃ x, putE T.a (k, c0, c1, c2) = x := ⟨_, rfl⟩
                rw [hm1] at hyes
                simp only [he1] at hyes hno
                rw [hm1, he1] at P
                unfold val at P
                clear H2 hst1 hm1 he1
                replace hyes := Lib.hid hyes; replace hno := Lib.hid hno
                go_wp2_with fail
                refine Calls.mono P ?_
                rintro e w4 ⟨rfl, H4⟩
                clear P
                simp only [World.size_alloc] at H4
                obtain ⟨z4, k4, f4⟩ := H4.box 1 rfl
                have H5 := H4.set 1 rfl 0 (.int .i64 m1) (by simp)
                clear H4
                by_cases he : e1 = 0
                · subst he
                  have ok2 := Lib.hid (hyes.out rfl)
                  clear hyes hno
                  replace H5 := Lib.hid H5
                  go_wp2_with (at_builtin; (refine wpList_appS rfl (.tmp 100) (.tmp 102) _ rfl 29 i0 _ 4 32 Try.underlying41 hi hz hz1 hz2 rfl (by omega) 4 _ T.put.length _ rfl H5.out rfl 1 1 [.int .i64 m1, .int .i64 c0, .int .i64 c1, .int .i64 c2] rfl rfl (by simp [Value.oneCell']) (by omega) (by omega) ?_; intro wv5 w5 H6; replace H6 := Lib.hid H6))
                  go_meet
                  exact ⟨_, ok2.out.mono (by omega), Lib.hid (fun _ => by have := ok2.out.gd.1; omega), ((rows_up (x := (m1, c0, c1, c2)) H6.out).arrN [2, 4, 0, 5, 6, 7, 1, 3] rfl).drops 6⟩
                · have ok2 := Lib.hid (hno.out he)
                  have qe : (e1 == 0) = false := by simp [he]
                  clear hyes hno
                  replace he := Lib.hid he
                  replace H5 := Lib.hid H5
                  go_wp2_with fail
                  go_meet
                  exact ⟨_, ok2.out.mono (by omega), Lib.hid (fun _ => by have := ok2.out.gd.1; omega), (H5.out.arrN [1, 3, 4, 5, 6, 7, 0, 2] rfl).drops 6⟩
            · have q2 : decide (kind < 2) = false := decide_eq_false k2
              by_cases k3 : kind = 2
              · subst k3
                clear q2 k2
                as_aux_lemma =>
                  have H2 := hst1.out.front 1 rfl
                  have P := due_st H2
                  obtain ⟨d, hd⟩ : ∃ d, dueC T.a = d := ⟨_, rfl⟩
                  have ok1 := Lib.hid (ok_due0 hok.out)
                  have hyes := fun he => due_ok hok.out he
                  obtain ⟨ok, hok1⟩ : ∃ ok, dueOk T.a = ok := ⟨_, rfl⟩
                  rw [hd] at hyes
                  simp only [hok1] at hyes
                  simp only [hd, hok1] at P
                  clear hok1 hd
                  unfold val at P
                  clear H2 hst1
                  replace hyes := Lib.hid hyes
                  go_wp2_with fail
                  refine Calls.mono P ?_
                  rintro e w4 ⟨rfl, H4⟩
                  clear P
                  have H5 := H4.alloc [.int .i64 d.1, .int .i64 d.2.1, .int .i64 d.2.2.1, .int .i64 d.2.2.2] 29
                  clear H4
                  cases ok with
                  | true =>
                    have ok2 := Lib.hid (hyes.out rfl)
                    clear hyes
                    replace H5 := Lib.hid H5
                    go_wp2_with (at_builtin; (refine wpList_appS rfl (.tmp 114) (.tmp 116) _ rfl 29 i0 _ 4 32 Try.underlying41 hi hz hz1 hz2 rfl (by omega) 5 _ T.said.length _ rfl H5.out rfl 1 1 [.int .i64 d.1, .int .i64 d.2.1, .int .i64 d.2.2.1, .int .i64 d.2.2.2] rfl rfl (by simp [Value.oneCell']) (by omega) (by omega) ?_; intro wv5 w5 H6; replace H6 := Lib.hid H6))
                    go_meet
                    exact ⟨_, ok2.out.mono (by omega), Lib.hid (fun _ => by have := ok2.out.gd.1; omega), ((rows_up (x := d) H6.out).arrN [2, 4, 5, 0, 6, 7, 1, 3] rfl).drops 6⟩
                  | false =>
                    clear hyes
                    replace H5 := Lib.hid H5
                    go_wp2_with fail
                    go_meet
                    exact ⟨_, ok1.out.mono (by omega), Lib.hid (fun _ => by have := ok1.out.gd.1; omega), (H5.out.arrN [1, 3, 4, 5, 6, 7, 0, 2] rfl).drops 6⟩
              · by_cases k4 : kind = 3
                · subst k4
                  clear q2 k2 k3
                  by_cases hml : m < T.said.length
                  · have qm : decide ((m : Int) < (T.said.length : Int)) = true := decide_eq_true (by omega)
                    as_aux_lemma =>
                      have hx : T.said[m] ∈ T.put := hok.out.said _ (List.getElem_mem hml)
                      have hx64 := num_64 hok.out (by omega) hx
                      have hyes := take_ok hok.out hx
                      have hno := take_no hok.out hx
                      have R : Rd _ asd (encs T.said) := St.rd (by omega) 4 hst1.out rfl
                      obtain ⟨gb, go, rfl, hgb⟩ := els_nth R hml
                      obtain ⟨hgb, e0, e1, e2, e3⟩ := els_cells R hml
                      have P := take_st T.said[m] (by simp [bL]) (by have := hok.out.hle; simp [bL]; omega) hx64 (hst1.out.front 2 rfl)
                      rw [take_b] at P
                      obtain ⟨h', hh'⟩ : ∃ h', hT T.h T.said[m] = h' := ⟨_, rfl⟩
                      obtain ⟨fr, hfr⟩ : ∃ fr, fresh (bL T.h) T.said[m].1 = fr := ⟨_, rfl⟩
                      obtain ⟨cf, hcf⟩ : ∃ cf, conf (bL T.h) T.said[m].1 = cf := ⟨_, rfl⟩
                      have hfc : fr = true → cf = true := fun h => by rw [← hcf]; exact fresh_conf (by rw [hfr]; exact h)
                      simp only [hh', hfr, hcf] at P hyes hno
                      clear hh' hfr hcf R hst1 hx hx64 hgb
                      have hels : ∀ (W : World), Rd W (some ⟨gb, go, none⟩) (encs T.said) → gb < W.heap.size ∧ W.cell? ⟨gb, go + m * 4, none⟩ = some (.int .i64 T.said[m].1) ∧ W.cell? ⟨gb, go + m * 4 + 1, none⟩ = some (.int .i64 T.said[m].2.1) ∧ W.cell? ⟨gb, go + m * 4 + 2, none⟩ = some (.int .i64 T.said[m].2.2.1) ∧ W.cell? ⟨gb, go + m * 4 + 3, none⟩ = some (.int .i64 T.said[m].2.2.2) := fun W hW => els_cells hW hml
                      generalize T.said[m] = x at *
                      unfold val at P
                      replace hyes := Lib.hid hyes; replace hno := Lib.hid hno; replace hels := Lib.hid hels; replace hfc := Lib.hid hfc
                      go_wp2_with fail
                      refine Calls.mono P ?_
                      rintro e w4 ⟨rfl, H4⟩
                      clear P e0 e1 e2 e3
                      obtain ⟨hgb4, e0, e1, e2, e3⟩ := hels.out _ (St.rd (by omega) 4 H4 rfl)
                      replace H4 := Lib.hid H4
                      obtain ⟨j0, hj0, hjz, hjz1, hjz2⟩ := info_parts int_info
                      cases fr with
                      | true =>
                        have := hfc.out rfl
                        subst this
                        obtain ⟨ok1, hle⟩ := hyes.out rfl
                        have ok2 := Lib.hid (ok_cfm x.1 (hle rfl) ok1)
                        clear ok1 hle hyes hno hfc
                        go_wp2_with (at_builtin; first
                          | (refine wpList_appS rfl (.tmp 138) (.tmp 143) _ rfl 29 i0 _ 4 32 Try.underlying41 hi hz hz1 hz2 rfl (by omega) 5 _ T.got.length _ rfl H4.out rfl 1 1 [.int .i64 x.1, .int .i64 x.2.1, .int .i64 x.2.2.1, .int .i64 x.2.2.2] rfl rfl (by simp [Value.oneCell']) (by omega) (by omega) ?_; intro wv5 w5 H6; obtain ⟨hgb6, f0, f1, f2, f3⟩ := hels.out _ (St.rd (by omega) 5 H6 rfl); replace H6 := Lib.hid H6)
                          | (refine wpList_appS rfl (.tmp 146) (.tmp 152) _ rfl 3 j0 _ 1 8 Try.underlying46 hj0 hjz hjz1 hjz2 rfl (by omega) 6 _ T.cfm.length _ rfl H6.out rfl 1 1 [.int .i64 x.1] rfl rfl (by simp [Value.oneCell']) (by omega) (by omega) ?_; intro wv7 w7 H8; replace H8 := Lib.hid H8))
                        go_meet
                        exact ⟨_, ok2.out.mono (by omega), Lib.hid (fun _ => by have := ok2.out.gd.1; omega), (((rows_up (x := x) ((i64s_up H8.out).front 1 rfl)).arrN [4, 2, 5, 6, 0, 1, 3] rfl).drops 6)⟩
                      | false =>
                        obtain ⟨ok1, hle⟩ := hno.out rfl
                        clear hyes hno hfc
                        cases cf with
                        | true =>
                          have ok2 := Lib.hid (ok_cfm x.1 (hle rfl) ok1)
                          clear ok1 hle
                          go_wp2_with (at_builtin; (refine wpList_appS rfl (.tmp 146) (.tmp 152) _ rfl 3 j0 _ 1 8 Try.underlying46 hj0 hjz hjz1 hjz2 rfl (by omega) 6 _ T.cfm.length _ rfl H4.out rfl 1 1 [.int .i64 x.1] rfl rfl (by simp [Value.oneCell']) (by omega) (by omega) ?_; intro wv7 w7 H8; replace H8 := Lib.hid H8))
                          go_meet
                          exact ⟨_, ok2.out.mono (by omega), Lib.hid (fun _ => by have := ok2.out.gd.1; omega), ((i64s_up H8.out).arrN [3, 1, 4, 5, 6, 0, 2] rfl).drops 6⟩
                        | false =>
                          clear hle
                          replace ok1 := Lib.hid ok1
                          go_wp2_with fail
                          go_meet
                          exact ⟨_, ok1.out.mono (by omega), Lib.hid (fun _ => by have := ok1.out.gd.1; omega), (H4.out.arrN [2, 0, 3, 4, 5, 6, 1] rfl).drops 6⟩
                  · have qm : decide ((m : Int) < (T.said.length : Int)) = false := decide_eq_false (by omega)
                    as_aux_lemma =>
                      go_wp2_with fail
                      go_meet
                      exact ⟨T, hok.out.mono (by omega), Lib.hid (fun _ => by have := hok.out.gd.1; omega), (hst1.out.arrN [1, 2, 3, 4, 5, 6, 0] rfl).drops 6⟩
                · by_cases k5 : kind = 4
                  · subst k5
                    clear q2 k2 k3 k4
                    by_cases hml : m < T.cfm.length
                    · have qm : decide ((m : Int) < (T.cfm.length : Int)) = true := decide_eq_true (by omega)
                      as_aux_lemma =>
                        have hmem : T.cfm[m] ∈ T.cfm := List.getElem_mem hml
                        have ok2 := ok_hear T.cfm[m] (hok.out.cfm _ hmem) hok.out
                        have R : Rd _ ac (i64s T.cfm) := St.rd (by omega) 6 hst1.out rfl
                        obtain ⟨gb, go, rfl, hgb, hcl⟩ := R.cons (i64s_ne rfl hml)
                        have e0 := hcl m _ (i64s_at hml)
                        have P := hear_st T.cfm[m] (hst1.out.front 1 rfl)
                        clear hmem R hcl
                        generalize T.cfm[m] = y at *
                        replace ok2 := Lib.hid ok2
                        clear hst1
                        go_wp2_with fail
                        refine Calls.mono P ?_
                        rintro e w4 ⟨rfl, H4⟩
                        replace H4 := Lib.hid H4
                        clear P
                        go_wp2_with fail
                        go_meet
                        exact ⟨_, ok2.out.mono (by omega), Lib.hid (fun _ => by have := ok2.out.gd.1; omega), (H4.out.arrN [0, 2, 3, 4, 5, 6, 1] rfl).drops 6⟩
                    · have qm : decide ((m : Int) < (T.cfm.length : Int)) = false := decide_eq_false (by omega)
                      as_aux_lemma =>
                        go_wp2_with fail
                        go_meet
                        exact ⟨T, hok.out.mono (by omega), Lib.hid (fun _ => by have := hok.out.gd.1; omega), (hst1.out.arrN [1, 2, 3, 4, 5, 6, 0] rfl).drops 6⟩
                  · by_cases k6 : kind = 5
                    · subst k6
                      clear q2 k2 k3 k4 k5
                      as_aux_lemma =>
                        have P := tick_st (by have := hok.out.gd; unfold good at this; omega) (hst1.out.front 1 rfl)
                        have ok2 := Lib.hid (ok_tick hok.out)
                        clear hst1
                        go_wp2_with fail
                        refine Calls.mono P ?_
                        rintro e w4 ⟨rfl, H4⟩
                        replace H4 := Lib.hid H4
                        clear P
                        go_wp2_with fail
                        go_meet
                        exact ⟨_, ok2.out.mono (by omega), Lib.hid (fun _ => by have := ok2.out.gd.1; omega), (H4.out.arrN [0, 2, 3, 4, 5, 6, 1] rfl).drops 6⟩
                    · have q3 : (kind == 2) = false := by simp; omega
                      have q4 : (kind == 3) = false := by simp; omega
                      have q5 : (kind == 4) = false := by simp; omega
                      have q6 : (kind == 5) = false := by simp; omega
                      clear k2 k3 k4 k5 k6
                      as_aux_lemma =>
                        go_wp2_with fail
                        go_meet
                        exact ⟨T, hok.out.mono (by omega), Lib.hid (fun _ => by have := hok.out.gd.1; omega), (hst1.out.arrN [1, 2, 3, 4, 5, 6, 0] rfl).drops 6⟩
          case rest =>
            as_aux_lemma =>
              obtain ⟨T', hok', hfin', HT⟩ := hcut
              clear hst1 hok hfin lp ls lc lg
              have zT := HT.size
              unfold allA at HT
              obtain ⟨ap2, cp2, rfl, _⟩ := St.slice (by omega) 2 HT rfl
              obtain ⟨as2, cs2, rfl, _⟩ := St.slice (by omega) 3 HT rfl
              obtain ⟨ac2, cc2, rfl, _⟩ := St.slice (by omega) 5 HT rfl
              obtain ⟨ag2, cg2, hgv, _⟩ := St.slice (by omega) 4 HT rfl
              obtain ⟨hg1, hg2, hg3⟩ := ok_got hok'.out
              have lp2 := hok'.out.lp
              cases hgl : T'.got.length with
              | zero =>
                rw [hgl] at hgv
                subst hgv
                have r1 : decide ((T'.put.length : Int) < 0) = false := decide_eq_false (by omega)
                have r2 : decide ((T'.put.length : Int) < ((0 : Nat) : Int)) = false := decide_eq_false (by omega)
                clear hg3
                replace HT := Lib.hid HT
                go_wp2_with fail
                refine wp_region_near (by kernel_rfl) (by kernel_rfl) ?_
                intro hs
                repeat (go_big_quiet_step (fail))
                refine wpQuiet_nil ?_
                clear hs
                intro w9 hb9
                have H9 := Lib.hid (HT.out.thruB (by simp) hb9)
                clear HT
                go_wp2_with fail
                go_roundg (n + 100 - (j + 1))
                case measure => omega
                case rel => exact ⟨j + 1, T', by omega, rfl, by go_num, hok', hfin', H9.out⟩
              | succ k =>
                rw [hgl] at hgv hg2
                subst hgv
                have r1 : decide ((T'.put.length : Int) < (k : Int) + 1) = false := decide_eq_false (by omega)
                have r2 : decide ((T'.put.length : Int) < ((k + 1 : Nat) : Int)) = false := decide_eq_false (by omega)
                have r3 : decide ((0 : Int) < (k : Int) + 1) = true := decide_eq_true (by omega)
                have r4 : decide ((0 : Int) < ((k + 1 : Nat) : Int)) = true := decide_eq_true (by omega)
                have hkg : k < T'.got.length := by omega
                have hkp : k < T'.put.length := by omega
                have hgp := hg3 k hkg hkp
                have RG : Rd wc ag2 (encs T'.got) := by
                  obtain ⟨_, _, e, _, _, R⟩ := (HT.row 4 rfl).rd (by omega)
                  injection e with e _ _
                  subst e
                  exact R
                have RP : Rd wc ap2 (encs T'.put) := St.rd (by omega) 2 HT rfl
                obtain ⟨bg, og, rfl, _⟩ := els_nth RG hkg
                obtain ⟨bp, op, rfl, _⟩ := els_nth RP hkp
                obtain ⟨zg, x0, x1, x2, x3⟩ := els_cells RG hkg
                obtain ⟨zp, y0, y1, y2, y3⟩ := els_cells RP hkp
                rw [hgp] at x0 x1 x2 x3
                clear hg3 RG RP hgp hkg
                have hE := eqC_self T'.put[k].1 T'.put[k].2.1 T'.put[k].2.2.1 T'.put[k].2.2.2
                generalize T'.put[k] = x at *
                replace HT := Lib.hid HT
                clear hgl hkp hg1
                go_wp2_with fail
                refine wp_region_near (by kernel_rfl) (by kernel_rfl) ?_
                intro hs
                repeat (go_big_quiet_step (fail))
                refine wpQuiet_nil ?_
                clear hs
                intro w9 hb9
                have H9 := Lib.hid (HT.out.thruB (by simp) hb9)
                clear HT
                go_wp2_with fail
                go_roundg (n + 100 - (j + 1))
                case measure => omega
                case rel => exact ⟨j + 1, T', by omega, rfl, by go_num, hok', hfin', H9.out⟩
        · have qjn : decide ((j : Int) < (n : Int)) = false := decide_eq_false (by omega)
          have qjm : decide ((n : Int) ≤ (j : Int)) = true := decide_eq_true (by omega)
          have hst1 := (hst.alloc [.int .i64 0, .int .i64 0, .int .i64 0, .int .i64 0, .int .i64 0, .int .i64 0] 48)
          clear hst
          replace hst1 := Lib.hid hst1
          go_upto_block 2 with fail
          go_cut [5, 6, 7, 8] (fun pv sv gv cv wx => ∃ T', Hid (OK T' (6 * (j + 1))) ∧ Hid (n ≤ j + 1 → T'.a.l.length ≤ 8 - (j + 1 - n)) ∧ St w none0 wx (allA qa qb T' pv sv gv cv))
          case first =>
            as_aux_lemma =>
              have hb1 : -1 ≤ T.a.since ∧ T.a.since ≤ 6 * j := by have := hok.out.gd; unfold good at this; omega
              have l1 := hok.out.gd.1
              have hl := ok_last hok.out
              have lt1 : ∀ s : Ln, s.since ≤ 100000 → (tickS s).since ≤ 100001 := by intro s hs; rw [since_tick]; split <;> omega
              have b1 : (tickS T.a).since ≤ 6 * j + 1 := by rw [since_tick]; split <;> omega
              have b2 : (tickS (tickS T.a)).since ≤ 6 * j + 2 := by rw [since_tick]; split <;> omega
              have b3 : (tickS (tickS (tickS T.a))).since ≤ 6 * j + 3 := by rw [since_tick]; split <;> omega
              clear lt1
              have P := tick_st (by omega) (hst1.out.front 1 rfl)
              clear hst1
              go_wp2_with fail
              refine Calls.mono P ?_
              rintro e w4 ⟨rfl, H4⟩
              have P := tick_st (by omega) H4
              clear H4
              go_wp2_with fail
              refine Calls.mono P ?_
              rintro e w5 ⟨rfl, H5⟩
              have P := tick_st (by omega) H5
              clear H5
              go_wp2_with fail
              refine Calls.mono P ?_
              rintro e w6 ⟨rfl, H6⟩
              have P := tick_st (by omega) H6
              clear H6
              go_wp2_with fail
              refine Calls.mono P ?_
              rintro e w7 ⟨rfl, H7⟩
              have P := due_st H7
              clear b1 b2 b3 H7
              have hdk := due_t4 T.a
              have hdc : 0 < T.a.l.length → dueC (t4 T.a) = headV T.a.l := fun h => by unfold dueC; rw [if_pos (by rw [hdk]; simpa using h), t4_l]
              change Calls _ _ _ _ (Fin w none0 (.tuple #[val (dueC (t4 T.a)), .bool (dueOk (t4 T.a))]) (lineA qa (dueS (t4 T.a)) :: _)) at P
              rw [hdk] at P
              by_cases hpos : 0 < T.a.l.length
              · rw [hdc hpos, decide_eq_true hpos] at P
                have hlT : lastT T = { takeT { T with a := dueS (t4 T.a) } (headV T.a.l) with a := hearS (dueS (t4 T.a)) (headV T.a.l).1 } := by unfold lastT; rw [if_pos hpos]
                rw [hlT] at hl
                obtain ⟨dd, hdd1, hdd2, hdd3, hmem, hnum⟩ := head_mem hok.out hpos
                have hx64 := num_64 hok.out (by omega) hmem
                clear hdc hdk hdd3 hmem hlT hnum
                generalize headV T.a.l = x at *
                unfold val at P
                replace hl := Lib.hid hl
                go_wp2_with fail
                refine Calls.mono P ?_
                rintro e w8 ⟨rfl, H8⟩
                clear P
                have H9 := H8.alloc [.int .i64 x.1, .int .i64 x.2.1, .int .i64 x.2.2.1, .int .i64 x.2.2.2] 29
                have P := take_st x (by simp [bL]) (by have := hok.out.hle; simp [bL]; omega) hx64 (H9.front 3 rfl)
                rw [take_b] at P
                have hl2 := hl.out
                unfold takeT at hl2
                simp only at hl2
                obtain ⟨h', hh'⟩ : ∃ h', hT T.h x = h' := ⟨_, rfl⟩
                obtain ⟨fr, hfr⟩ : ∃ fr, fresh (bL T.h) x.1 = fr := ⟨_, rfl⟩
                simp only [hh', hfr] at P hl2
                clear hh' hfr H8 H9 hl hx64
                generalize conf (bL T.h) x.1 = cf at P
                unfold val at P
                replace hl2 := Lib.hid hl2
                go_wp2_with fail
                refine Calls.mono P ?_
                rintro e w9 ⟨rfl, H9⟩
                clear P
                obtain ⟨z9, k9, f9⟩ := H9.box 1 rfl
                replace H9 := Lib.hid H9
                cases fr with
                | true =>
                  go_wp2_with (at_builtin; (refine wpList_appS rfl (.tmp 76) (.tmp 78) _ rfl 29 i0 _ 4 32 Try.underlying41 hi hz hz1 hz2 rfl (by omega) 6 _ T.got.length _ rfl H9.out rfl 1 1 [.int .i64 x.1, .int .i64 x.2.1, .int .i64 x.2.2.1, .int .i64 x.2.2.2] rfl rfl (by simp [Value.oneCell']) (by omega) (by omega) ?_; intro wv10 w10 H10; obtain ⟨z10, k10, f10⟩ := H10.box 2 rfl; have P := hear_st x.1 (H10.front 3 rfl); replace H10 := Lib.hid H10))
                  refine Calls.mono P ?_
                  rintro e w11 ⟨rfl, H11⟩
                  clear P H10
                  replace H11 := Lib.hid H11
                  go_wp2_with fail
                  go_meet
                  exact ⟨_, hl2.out.1.mono (by omega), Lib.hid (fun _ => by have := hl2.out.2; have := hfin.out (by omega); simp only at *; omega), ((rows_up (x := x) (H11.out.front 1 rfl)).arrN [1, 2, 5, 6, 0, 7, 3, 4] rfl).drops 6⟩
                | false =>
                  have P := hear_st x.1 (H9.out.front 2 rfl)
                  go_wp2_with fail
                  refine Calls.mono P ?_
                  rintro e w11 ⟨rfl, H11⟩
                  clear P H9
                  replace H11 := Lib.hid H11
                  go_wp2_with fail
                  go_meet
                  exact ⟨_, hl2.out.1.mono (by omega), Lib.hid (fun _ => by have := hl2.out.2; have := hfin.out (by omega); simp only at *; omega), (H11.out.arrN [0, 1, 4, 5, 6, 7, 2, 3] rfl).drops 6⟩
              · rw [decide_eq_false hpos] at P
                have hlT : lastT T = { T with a := t4 T.a } := by unfold lastT; rw [if_neg hpos]
                rw [hlT] at hl
                clear hdc
                have hds : dueS (t4 T.a) = t4 T.a := by unfold dueS; rw [if_neg (by rw [hdk]; simpa using hpos)]
                rw [hds] at P
                generalize dueC (t4 T.a) = x at P
                clear hdk hds hlT
                unfold val at P
                replace hl := Lib.hid hl
                go_wp2_with fail
                refine Calls.mono P ?_
                rintro e w8 ⟨rfl, H8⟩
                clear P
                have H9 := H8.skip (.cells #[.int .i64 x.1, .int .i64 x.2.1, .int .i64 x.2.2.1, .int .i64 x.2.2.2] 29)
                clear H8
                replace H9 := Lib.hid H9
                go_wp2_with fail
                go_meet
                exact ⟨_, hl.out.1.mono (by omega), Lib.hid (fun _ => by have := hl.out.2; have := hfin.out (by omega); simp only at *; omega), (H9.out.arrN [0, 2, 3, 4, 5, 6, 1] rfl).drops 6⟩
          case rest =>
            as_aux_lemma =>
              obtain ⟨T', hok', hfin', HT⟩ := hcut
              clear hst1 hok hfin lp ls lc lg
              have zT := HT.size
              unfold allA at HT
              obtain ⟨ap2, cp2, rfl, _⟩ := St.slice (by omega) 2 HT rfl
              obtain ⟨as2, cs2, rfl, _⟩ := St.slice (by omega) 3 HT rfl
              obtain ⟨ac2, cc2, rfl, _⟩ := St.slice (by omega) 5 HT rfl
              obtain ⟨ag2, cg2, hgv, _⟩ := St.slice (by omega) 4 HT rfl
              obtain ⟨hg1, hg2, hg3⟩ := ok_got hok'.out
              have lp2 := hok'.out.lp
              cases hgl : T'.got.length with
              | zero =>
                rw [hgl] at hgv
                subst hgv
                have r1 : decide ((T'.put.length : Int) < 0) = false := decide_eq_false (by omega)
                have r2 : decide ((T'.put.length : Int) < ((0 : Nat) : Int)) = false := decide_eq_false (by omega)
                clear hg3
                replace HT := Lib.hid HT
                go_wp2_with fail
                refine wp_region_near (by kernel_rfl) (by kernel_rfl) ?_
                intro hs
                repeat (go_big_quiet_step (fail))
                refine wpQuiet_nil ?_
                clear hs
                intro w9 hb9
                have H9 := Lib.hid (HT.out.thruB (by simp) hb9)
                clear HT
                go_wp2_with fail
                go_roundg (n + 100 - (j + 1))
                case measure => omega
                case rel => exact ⟨j + 1, T', by omega, rfl, by go_num, hok', hfin', H9.out⟩
              | succ k =>
                rw [hgl] at hgv hg2
                subst hgv
                have r1 : decide ((T'.put.length : Int) < (k : Int) + 1) = false := decide_eq_false (by omega)
                have r2 : decide ((T'.put.length : Int) < ((k + 1 : Nat) : Int)) = false := decide_eq_false (by omega)
                have r3 : decide ((0 : Int) < (k : Int) + 1) = true := decide_eq_true (by omega)
                have r4 : decide ((0 : Int) < ((k + 1 : Nat) : Int)) = true := decide_eq_true (by omega)
                have hkg : k < T'.got.length := by omega
                have hkp : k < T'.put.length := by omega
                have hgp := hg3 k hkg hkp
                have RG : Rd wc ag2 (encs T'.got) := by
                  obtain ⟨_, _, e, _, _, R⟩ := (HT.row 4 rfl).rd (by omega)
                  injection e with e _ _
                  subst e
                  exact R
                have RP : Rd wc ap2 (encs T'.put) := St.rd (by omega) 2 HT rfl
                obtain ⟨bg, og, rfl, _⟩ := els_nth RG hkg
                obtain ⟨bp, op, rfl, _⟩ := els_nth RP hkp
                obtain ⟨zg, x0, x1, x2, x3⟩ := els_cells RG hkg
                obtain ⟨zp, y0, y1, y2, y3⟩ := els_cells RP hkp
                rw [hgp] at x0 x1 x2 x3
                clear hg3 RG RP hgp hkg
                have hE := eqC_self T'.put[k].1 T'.put[k].2.1 T'.put[k].2.2.1 T'.put[k].2.2.2
                generalize T'.put[k] = x at *
                replace HT := Lib.hid HT
                clear hgl hkp hg1
                go_wp2_with fail
                refine wp_region_near (by kernel_rfl) (by kernel_rfl) ?_
                intro hs
                repeat (go_big_quiet_step (fail))
                refine wpQuiet_nil ?_
                clear hs
                intro w9 hb9
                have H9 := Lib.hid (HT.out.thruB (by simp) hb9)
                clear HT
                go_wp2_with fail
                go_roundg (n + 100 - (j + 1))
                case measure => omega
                case rel => exact ⟨j + 1, T', by omega, rfl, by go_num, hok', hfin', H9.out⟩
      · have qlt : decide ((j : Int) < (n : Int) + 100) = false := decide_eq_false (by omega)
        have hl0 : T.a.l.length = 0 := by have := hfin.out; omega
        have eE : ((T.got.length : Int) == (T.put.length : Int)) = true := by rw [ok_end hok.out hl0]; simp
        have P := len_st hst
        rw [hl0] at P
        replace hst := Lib.hid hst
        go_wp2_with fail
        refine Calls.mono P ?_
        rintro e w4 ⟨rfl, hb4⟩
        have H4 := Lib.hid (hst.out.thru hb4)
        go_wp2_with fail
        go_ret
        exact H4.out.ret rfl
end Go.Proofs.Ytljgmephajocaaa.Ctl
