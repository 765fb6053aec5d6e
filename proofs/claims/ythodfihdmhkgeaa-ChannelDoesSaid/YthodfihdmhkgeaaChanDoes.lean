/- The walk of the statement ChannelDoes. -/
import Derived.Test.YthodfihdmhkgeaaChanJust
import Derived.Deep.CutBlock
import Derived.Deep.DeepCutAuto
namespace Go.Proofs.Ythodfihdmhkgeaa.Chan
set_option linter.unusedSimpArgs false
set_option linter.unusedVariables false
open Go Go.RowKit Go.Proofs.Ythodfihdmhkgeaa Go.Proofs.Ythodfihdmhkgeaa.DockDg
attribute [local irreducible] Calls

theorem send_none (s : ByteArray) (w : World) : Calls Try.prog 44 #[.pointer none, .string s] w (Ret w (.int .i64 0)) := by
  go_enter Try.func44, Try.ntmps44
  go_wp2_with fail
  skip
  go_ret
  exact Ret.mk rfl (by repeat (first | with_reducible exact Below.refl _ _ | (with_reducible refine Below.al ?_) | (with_reducible refine Below.drew ?_) | (with_reducible refine Below.set ?_ (by first | (simp; done) | omega | (simp; omega))) | (with_reducible refine Below.thru ?_ (by assumption)) | (with_reducible refine Below.chg ?_ (by assumption) (by first | (simp; done) | omega | (simp; omega)))))
theorem clast_none (w : World) : Calls Try.prog 60 #[.pointer none] w (Ret w (.int .i64 0)) := by
  go_enter Try.func60, Try.ntmps60
  go_wp2_with fail
  skip
  go_ret
  exact Ret.mk rfl (by repeat (first | with_reducible exact Below.refl _ _ | (with_reducible refine Below.al ?_) | (with_reducible refine Below.drew ?_) | (with_reducible refine Below.set ?_ (by first | (simp; done) | omega | (simp; omega))) | (with_reducible refine Below.thru ?_ (by assumption)) | (with_reducible refine Below.chg ?_ (by assumption) (by first | (simp; done) | omega | (simp; omega)))))
theorem rest_none (w : World) : Calls Try.prog 62 #[.pointer none] w (Ret w (.slice none 0 0)) := by
  go_enter Try.func62, Try.ntmps62
  go_wp2_with fail
  skip
  go_ret
  exact Ret.mk rfl (by repeat (first | with_reducible exact Below.refl _ _ | (with_reducible refine Below.al ?_) | (with_reducible refine Below.drew ?_) | (with_reducible refine Below.set ?_ (by first | (simp; done) | omega | (simp; omega))) | (with_reducible refine Below.thru ?_ (by assumption)) | (with_reducible refine Below.chg ?_ (by assumption) (by first | (simp; done) | omega | (simp; omega)))))
set_option maxRecDepth 100000 in
theorem may_none (n : Int) (s : ByteArray) (w : World) : Calls Try.prog 59 #[.pointer none, .agg #[.int .i64 n, .string s]] w (Ret w (.bool false)) := by
  go_enter Try.func59, Try.ntmps59
  go_wp2_with fail
  refine wp_region_near (by kernel_rfl) (by kernel_rfl) ?_
  intro hs
  repeat (go_big_quiet_step (fail))
  refine wpQuiet_nil ?_
  clear hs
  intro w1 hb1
  go_wp2_with fail
  go_ret
  exact Ret.mk rfl (by repeat (first | with_reducible exact Below.refl _ _ | (with_reducible refine Below.al ?_) | (with_reducible refine Below.drew ?_) | (with_reducible refine Below.set ?_ (by first | (simp; done) | omega | (simp; omega))) | (with_reducible refine Below.thru ?_ (by assumption)) | (with_reducible refine Below.chg ?_ (by assumption) (by first | (simp; done) | omega | (simp; omega)))))
theorem recv_none (n : Int) (s : ByteArray) (w : World) : Calls Try.prog 45 #[.pointer none, .agg #[.int .i64 n, .string s]] w (Ret w (.bool false)) := by
  go_enter Try.func45, Try.ntmps45
  go_wp2_with fail
  refine Calls.mono (may_none _ _ _) ?_
  rintro e w1 ⟨rfl, hb1⟩
  have z1 := Below.size hb1; try simp only [World.size_alloc, World.size_setCell, World.size_drew] at z1
  go_wp2_with fail
  go_ret
  exact Ret.mk rfl (by repeat (first | with_reducible exact Below.refl _ _ | (with_reducible refine Below.al ?_) | (with_reducible refine Below.drew ?_) | (with_reducible refine Below.set ?_ (by first | (simp; done) | omega | (simp; omega))) | (with_reducible refine Below.thru ?_ (by assumption)) | (with_reducible refine Below.chg ?_ (by assumption) (by first | (simp; done) | omega | (simp; omega)))))

set_option maxHeartbeats 400000 in
theorem same_any (l : List Dg) (n : Nat) (hl : l.length = n) (hn : n ≤ maxLen) (a : Option Addr) (cap : Nat) (a' : Option Addr) (cap' : Nat) (w : World) (h : Rd w a (dgs l)) (g : Rd w a' (dgs l)) :
    Calls Try.prog 61 #[.slice a n cap, .slice a' n cap'] w (Ret w (.bool true)) := by
  unfold maxLen at hn
  replace h := Lib.hid h; replace g := Lib.hid g; replace hl := Lib.hid hl
  go_enter Try.func61, Try.ntmps61
  go_wp2_with fail
  go_loopg [5] n (fun g i wr => ∃ k : Nat, k ≤ n ∧ g = n - k ∧ i = .int .i64 k ∧ Below w.heap.size w wr)
  case atStart => exact ⟨0, by omega, by omega, rfl, (by repeat (first | with_reducible exact Below.refl _ _ | (with_reducible refine Below.al ?_) | (with_reducible refine Below.drew ?_) | (with_reducible refine Below.set ?_ (by first | (simp; done) | omega | (simp; omega))) | (with_reducible refine Below.thru ?_ (by assumption)) | (with_reducible refine Below.chg ?_ (by assumption) (by first | (simp; done) | omega | (simp; omega)))))⟩
  case round =>
    obtain ⟨k, hk, hg, rfl, hbw⟩ := hrel
    by_cases hlt : k < n
    · have hkl : k < l.length := by have := hl.out; omega
      obtain ⟨b, off, rfl, hb, hc⟩ := dgs_at (h.out.below hbw) hl.out (by omega)
      obtain ⟨b', off', rfl, hb', hc'⟩ := dgs_at (g.out.below hbw) hl.out (by omega)
      obtain ⟨e0, e1⟩ := hc k hkl
      obtain ⟨f0, f1⟩ := hc' k hkl
      clear hc hc'
      generalize l[k] = d at *
      obtain ⟨dn, ds⟩ := d
      simp only at e0 e1 f0 f1
      have ee : eqD dn ds dn ds = true := by simp [eqD]
      go_wp2_with fail
      refine wp_region_near (by kernel_rfl) (by kernel_rfl) ?_
      intro hs
      repeat (go_big_quiet_step (fail))
      refine wpQuiet_nil ?_
      clear hs
      intro w2 hb2
      go_wp2_with fail
      go_roundg (n - (k + 1))
      case measure => omega
      case rel => exact ⟨k + 1, by omega, rfl, by go_num, (by repeat (first | with_reducible exact Below.refl _ _ | (with_reducible refine Below.al ?_) | (with_reducible refine Below.drew ?_) | (with_reducible refine Below.set ?_ (by first | (simp; done) | omega | (simp; omega))) | (with_reducible refine Below.thru ?_ (by assumption)) | (with_reducible refine Below.chg ?_ (by assumption) (by first | (simp; done) | omega | (simp; omega)))))⟩
    · go_wp2_with fail
      go_ret
      exact Ret.mk rfl (by repeat (first | with_reducible exact Below.refl _ _ | (with_reducible refine Below.al ?_) | (with_reducible refine Below.drew ?_) | (with_reducible refine Below.set ?_ (by first | (simp; done) | omega | (simp; omega))) | (with_reducible refine Below.thru ?_ (by assumption)) | (with_reducible refine Below.chg ?_ (by assumption) (by first | (simp; done) | omega | (simp; omega)))))

structure ChOp where
  kind : Int
  num : Int
  dat : ByteArray
def encCh (o : ChOp) : List Value := [.int .i64 o.kind, .int .i64 o.num, .string o.dat]
theorem chops_in {w : World} {a : Option Addr} {len cap : Nat} (h : Fits w (.slice 3 (.cons 1 (.int .i64) (.cons 2 (.cons 1 (.int .i64) (.cons 1 .str .nil)) .nil))) [.slice a len cap]) :
    len ≤ maxLen ∧ (a = none → len = 0) ∧ ∃ l : List ChOp, l.length = len ∧ (∀ x ∈ l, isI64 x.num ∧ x.dat.size ≤ maxLen) ∧ Rd w a (l.flatMap encCh) :=
  rows_in (size := 3) encCh (by omega) (fun _ => rfl) (fun cs hf hlen => by
    obtain ⟨v, vs, rfl, f0, r0⟩ := fits_cons1 hf
    obtain ⟨n, rfl, wn⟩ := fits_int f0
    obtain ⟨h2, f1, r1⟩ := r0
    have hl2 : vs.length = 2 := by simpa using hlen
    rw [List.take_of_length_le (by omega)] at f1
    obtain ⟨_, _, rfl, g0, s0⟩ := fits_cons1 f1
    obtain ⟨_, _, rfl, g1, s1⟩ := fits_cons1 s0
    obtain ⟨m, rfl, wm⟩ := fits_int g0
    obtain ⟨s, rfl, ws⟩ := fits_str g1
    obtain rfl : _ = [] := s1
    exact ⟨⟨n, m, s⟩, rfl, bounds_i64 wm, ws⟩) h
theorem chops_at {w : World} {a : Option Addr} {l : List ChOp} (h : Rd w a (l.flatMap encCh)) {n : Nat} (hn : l.length = n) (h0 : 0 < n) :
    ∃ b off, a = some ⟨b, off, none⟩ ∧ b < w.heap.size ∧ ∀ i (hi : i < l.length), w.cell? ⟨b, off + i * 3, none⟩ = some (.int .i64 l[i].kind) ∧ w.cell? ⟨b, off + i * 3 + 1, none⟩ = some (.int .i64 l[i].num) ∧ w.cell? ⟨b, off + i * 3 + 2, none⟩ = some (.string l[i].dat) := by
  obtain ⟨b, off, e, hb, hc⟩ := Rd.rows (enc := encCh) (size := 3) (fun _ => rfl) (by omega) h hn h0
  exact ⟨b, off, e, hb, fun i hi => ⟨hc i hi 0 _ rfl, hc i hi 1 _ rfl, hc i hi 2 _ rfl⟩⟩

theorem row_cap {w : World} {base size n cap : Nat} {a : Option Addr} {xs : List Value} (h : Own w base size (.slice a n cap) n xs) : n ≤ cap := by
  rcases h.2 with ⟨e, e0⟩ | ⟨_, _, _, e, _, _, hc, _⟩
  · injection e with e1 e2 e3; omega
  · injection e with e1 e2 e3; omega
theorem rd_drop {w : World} {a : Option Addr} {l : List Dg} (h : Rd w a (dgs l)) (p cap : Nat) (hc : l.length ≤ cap) : Rd w (if cap = p then a else Option.map (fun x => x.add (p * 2)) a) (dgs (l.drop p)) := by
  by_cases hnil : l.drop p = []
  · rw [hnil]; exact .inl rfl
  · have hlt : p < l.length := by
      rcases Nat.lt_or_ge p l.length with h | h
      · exact h
      · exact absurd (List.drop_of_length_le h) hnil
    rw [if_neg (by omega)]
    have hne : dgs l ≠ [] := fun e => by
      have := congrArg List.length e
      rw [show (dgs l).length = l.length * 2 from flat_len enc_len l] at this
      simp only [List.length_nil] at this
      omega
    obtain ⟨b, off, rfl, hb, hcell⟩ := h.cons hne
    refine .inr ⟨b, off + p * 2, by simp only [Option.map_some, Addr.add_lit], hb, fun j u hu => ?_⟩
    rw [← show (dgs l).drop (p * 2) = dgs (l.drop p) from encs_drop l p, List.getElem?_drop] at hu
    rw [Nat.add_assoc]
    exact hcell _ _ hu

set_option maxRecDepth 100000 in
set_option maxHeartbeats 4000000 in
theorem does_walk (a : Option Addr) (n cap : Nat) (w : World) (h0 : Fits w (.slice 3 (.cons 1 (.int .i64) (.cons 2 (.cons 1 (.int .i64) (.cons 1 .str .nil)) .nil))) [.slice a n cap]) :
    Calls Try.prog 13 #[.slice a n cap] w (Ret w (.bool true)) := by
  obtain ⟨hn, _, L, hl, hgood, hL⟩ := chops_in h0
  unfold maxLen at hn
  obtain ⟨i0, hi, hz, hz1, hz2⟩ := info_parts DelDg.el_info
  clear h0
  replace hl := Lib.hid hl; replace hL := Lib.hid hL; replace hgood := Lib.hid hgood
  go_enter Try.func13, Try.ntmps13
  go_wp2_with fail
  refine Calls.mono (works_law _) ?_
  rintro e w1 ⟨rfl, hb1⟩
  have z1 := Below.size hb1; try simp only [World.size_alloc, World.size_setCell, World.size_drew] at z1
  by_cases h150 : 150 < n
  · have q : decide ((150 : Int) < n) = true := decide_eq_true (by omega)
    go_wp2_with fail
    go_ret
    exact Ret.mk rfl (by repeat (first | with_reducible exact Below.refl _ _ | (with_reducible refine Below.al ?_) | (with_reducible refine Below.drew ?_) | (with_reducible refine Below.set ?_ (by first | (simp; done) | omega | (simp; omega))) | (with_reducible refine Below.thru ?_ (by assumption)) | (with_reducible refine Below.chg ?_ (by assumption) (by first | (simp; done) | omega | (simp; omega)))))
  · have qq : decide ((150 : Int) < n) = false := decide_eq_false (by omega)
    have q150 : n ≤ 150 := by omega
    go_wp2_with fail
    refine Calls.mono (cnew_any _) ?_
    rintro e w2 ⟨c, rfl, H2⟩
    have H2' : St w none0 w2 [chanA c 0 [], rowA 2 (.slice none 0 0) 0 (dgs [])] := (((St.zero w).thru hb1).row_nil.add H2)
    clear H2
    replace H2' := Lib.hid H2'
    go_wp2_with fail
    go_loopg [5, 6, 7, 8, 9] n (fun g sv la i _ _ wr => ∃ (j : Nat) (last : Int) (l : List El), j ≤ n ∧ g = n - j ∧ i = .int .i64 j ∧ la = .int .i64 last ∧ 0 ≤ last ∧ last ≤ l.length ∧ l.length ≤ j ∧ Hid (Numbered l) ∧ St w none0 wr [chanA c last l, rowA 2 sv l.length (dgs l)])
    case atStart => exact ⟨0, 0, [], by omega, by omega, rfl, rfl, by omega, by simp, by simp, fun i h => by simp at h, H2'.out⟩
    case round =>
      obtain ⟨sv, hsv⟩ : ∃ v, v = u5 := ⟨_, rfl⟩
      subst hsv
      obtain ⟨j, last, l, hj, hg, rfl, rfl, hla0, hla1, hlj, hN, hst⟩ := hrel
      have zw := hst.size
      have hbw := hst.below
      by_cases hlt : j < n
      · have hjl : j < L.length := by have := hl.out; omega
        obtain ⟨b, off, rfl, hb, hc⟩ := chops_at (hL.out.below hbw) hl.out (by omega)
        obtain ⟨e0, e1, e2⟩ := hc j hjl
        obtain ⟨hnum, hgd⟩ := hgood.out L[j] (List.getElem_mem hjl)
        clear hc
        generalize L[j] = ob at *
        obtain ⟨kind, num, dat⟩ := ob
        simp only at e0 e1 e2 hgd hnum
        unfold maxLen at hgd
        have hst1 := (hst.alloc [.int .i64 kind, .int .i64 num, .string dat] 89).front 1 rfl
        clear hst
        by_cases hs : 1000 < dat.size
        · have s1 : decide ((1000 : Int) < dat.size) = true := decide_eq_true (by omega)
          replace hst1 := Lib.hid hst1
          go_wp2_with fail
          go_ret
          exact hst1.out.ret rfl
        · have s1 : decide ((1000 : Int) < dat.size) = false := decide_eq_false (by omega)
          replace hst1 := Lib.hid hst1
          go_upto_if 33 with fail
          go_cut [5, 6] (fun sv5 la5 wx => ∃ (p : Nat) (l' : List El), la5 = .int .i64 (p : Int) ∧ p ≤ l'.length ∧ l'.length ≤ j + 1 ∧ Hid (Numbered l') ∧ St w none0 wx [chanA c (p : Int) l', rowA 2 sv5 l'.length (dgs l')])
          case first =>
            obtain ⟨p, hp⟩ : ∃ p : Nat, last = (p : Int) := ⟨last.toNat, by omega⟩
            subst hp
            by_cases k2 : kind < 2
            · have s2 : decide (kind < 2) = true := decide_eq_true k2
              have P := send_st dat (by omega) hst1.out
              clear hst1
              go_wp2_with fail
              refine Calls.mono P ?_
              rintro e w4 ⟨rfl, H4⟩
              clear P
              obtain ⟨z4, c4, f4⟩ := H4.box 1 rfl
              obtain ⟨av, cv, hv, hnv, _, _⟩ := (H4.row 2 rfl).rd (by omega)
              rw [hv] at H4 ⊢
              clear hv
              replace H4 := Lib.hid H4
              go_wp2_with (at_builtin; (refine wpList_appS rfl (.tmp 43) (.tmp 51) _ rfl 32 i0 _ 2 24 Try.underlying22 hi hz hz1 hz2 rfl (by omega) 2 _ l.length _ rfl H4.out rfl 1 1 [.int .i64 ((l.length : Int) + 1), .string dat] rfl rfl (by simp [Value.oneCell']) (by omega) (by omega) ?_; intro wv5 w5 H5; replace H5 := Lib.hid H5))
              go_meet
              refine ⟨p, l ++ [((l.length : Int) + 1, dat)], rfl, by simp; omega, by simp; omega, hN.out.snoc dat, ?_⟩
              rw [List.length_append, ← dgs_app]
              exact (H5.out.front 1 rfl).drop 2 rfl
            · have s2 : decide (kind < 2) = false := decide_eq_false k2
              have hmay := may_has hN.out hla0 (num, dat)
              have hfst := fun h => (may_iff hN.out hla0 (num, dat)).1 h
              obtain ⟨m, hm⟩ : ∃ m, m = mayB (p : Int) l (num, dat) := ⟨_, rfl⟩
              rw [← hm] at hmay hfst
              have hmb : m = true → 0 ≤ num ∧ num ≤ l.length := fun h => by
                obtain ⟨h1, h2⟩ := hfst h
                obtain ⟨i, hi, e⟩ := List.getElem_of_mem h2
                have := hN.out i hi
                rw [e] at this
                simp only at this h1
                omega
              clear hfst
              replace hmb := Lib.hid hmb
              replace hm := Lib.hid hm
              by_cases c1 : (p : Int) < num
              · have s3 : decide ((p : Int) < num) = true := decide_eq_true c1
                obtain ⟨av, cv, hv, hnv, _, _⟩ := (hst1.out.row 2 rfl).rd (by omega)
                have hst2 := hst1.out
                rw [hv] at hst2 ⊢
                clear hv hst1
                have H3 := hst2.alloc [.int .i64 num, .string dat] 32
                obtain ⟨_, _, ev, _, _, R3⟩ := (H3.row 3 rfl).rd (by omega)
                injection ev with ev1 ev2 ev3
                rw [← ev1] at R3
                have R4 : Rd _ _ (dgs [(num, dat)]) := rd_new (w := wr.alloc (.cells #[.int .i64 kind, .int .i64 num, .string dat] 89)) (vs := [.int .i64 num, .string dat]) (t := 32)
                rw [World.size_alloc] at R4
                have P0 := rpart_any l [(num, dat)] l.length 1 rfl hnv rfl (by decide) av cv _ 1 _ R3 R4
                rw [show partB l [(num, dat)] = m from by rw [← hmay]; simp only [s3]; simp [partB]] at P0
                clear ev1 ev2 ev3 R3 R4 hst2 hmay hnv c1
                replace H3 := Lib.hid H3
                go_wp2_with fail
                refine Calls.mono P0 ?_
                rintro e w5 ⟨rfl, hb5⟩
                have H5 := (H3.out.thru hb5).front 1 rfl
                have P1 := may_st (num, dat) (by omega) hnum H5
                rw [← hm.out] at P1
                obtain ⟨z5, c5, f5⟩ := H5.box 2 rfl
                replace H5 := Lib.hid H5
                clear H3 P0 hb5
                go_wp2_with fail
                refine Calls.mono P1 ?_
                rintro e w6 ⟨rfl, hb6⟩
                have P2 := recv_st (num, dat) (by omega) hnum (H5.out.thru hb6)
                rw [← hm.out] at P2
                obtain ⟨z6, c6, f6⟩ := (H5.out.thru hb6).box 2 rfl
                clear P1 H5 hm c5 f5
                cases m
                · rw [if_neg (by simp)] at P2
                  clear hmb
                  go_wp2_with fail
                  refine Calls.mono P2 ?_
                  rintro e w7 ⟨rfl, H7⟩
                  clear P2
                  replace H7 := Lib.hid H7
                  go_wp2_with fail
                  go_meet
                  exact ⟨p, l, rfl, by omega, by omega, hN, (H7.out.drop 2 rfl).drop 1 rfl⟩
                · rw [if_pos rfl] at P2
                  obtain ⟨hn0, hn1⟩ := hmb.out rfl
                  clear hmb
                  go_wp2_with fail
                  refine Calls.mono P2 ?_
                  rintro e w7 ⟨rfl, H7⟩
                  obtain ⟨z7, c7, f7⟩ := H7.box 2 rfl
                  clear P2
                  replace H7 := Lib.hid H7
                  go_wp2_with fail
                  go_meet
                  exact ⟨num.toNat, l, by rw [Int.toNat_of_nonneg hn0], by omega, by omega, hN, by rw [Int.toNat_of_nonneg hn0]; exact (H7.out.drop 2 rfl).drop 1 rfl⟩
              · have s3 : decide ((p : Int) < num) = false := decide_eq_false c1
                have hmf : m = false := by rw [← hmay]; simp only [s3]; rfl
                have P1 := may_st (num, dat) (by omega) hnum hst1.out
                have H5 := hst1.out
                clear hmay hst1 c1
                rw [← hm.out, hmf] at P1
                obtain ⟨z5, c5, f5⟩ := H5.box 1 rfl
                replace H5 := Lib.hid H5
                replace hmf := Lib.hid hmf
                go_wp2_with fail
                refine Calls.mono P1 ?_
                rintro e w6 ⟨rfl, hb6⟩
                have P2 := recv_st (num, dat) (by omega) hnum (H5.out.thru hb6)
                rw [← hm.out, hmf.out, if_neg (by simp)] at P2
                obtain ⟨z6, c6, f6⟩ := (H5.out.thru hb6).box 1 rfl
                clear P1 H5 hm c5 f5
                go_wp2_with fail
                refine Calls.mono P2 ?_
                rintro e w7 ⟨rfl, H7⟩
                clear P2
                replace H7 := Lib.hid H7
                go_wp2_with fail
                go_meet
                exact ⟨p, l, rfl, by omega, by omega, hN, H7.out.drop 1 rfl⟩
          case rest =>
            obtain ⟨p, l', rfl, hp1, hp2, hN', HT⟩ := hcut
            clear hst1 e0 e1 e2 hla0 hla1 hlj hN
            obtain ⟨a3, c3, hv3, hn3, _, _⟩ := (HT.row 1 rfl).rd (by omega)
            have hc3 := row_cap (by have := HT.row 1 rfl; rw [hv3] at this; exact this)
            rw [hv3] at HT ⊢
            clear hv3
            have zT := HT.size
            have hq : (l'.drop (p : Int).toNat).length = l'.length - p := by simp
            have hn3' : l'.length - p ≤ maxLen := by omega
            replace HT := Lib.hid HT; replace hq := Lib.hid hq
            unfold maxLen at hn3
            go_wp2_with fail
            go_region_law (first
              | (go_simp; go_at_call 60; refine Calls.mono (clast_st (show St w none0 _ [chanA c (p : Int) l', rowA 2 (.slice a3 l'.length c3) l'.length (dgs l')] from by repeat (first | exact HT.out | refine St.drew ?_))) ?_; rintro e w5 ⟨rfl, hb5⟩; have H5 := HT.out.drew.thru hb5; replace H5 := Lib.hid H5)
              | (go_simp; go_at_call 62; refine Calls.mono (rest_st (by omega) (by omega) (by omega) H5.out) ?_; rintro e w6 ⟨v6, rfl, h6⟩; have H6 := H5.out.add h6; obtain ⟨a6, c6, e6, hn6, _, R6⟩ := (H6.row 0 rfl).rd (by omega); rw [e6, hq.out]; obtain ⟨_, _, e7, _, _, R7⟩ := (H6.row 2 rfl).rd (by omega); injection e7 with e7 e8 e9; rw [← e7] at R7; clear e6 e7 e8 e9 h6; replace R6 := Lib.hid R6; replace R7 := Lib.hid R7; replace H6 := Lib.hid H6)
              | (go_simp; go_at_call 61; refine Calls.mono (same_any (l'.drop p) (l'.length - p) (by simp) hn3' _ _ _ _ _ R6.out (rd_drop R7.out p c3 hc3)) ?_; rintro e w7 ⟨rfl, hb7⟩; have H7 := (H6.out.thru hb7).drop 0 rfl; replace H7 := Lib.hid H7))
            go_wp2_with fail
            · have hcp : c3 = p := by assumption
              subst hcp
              go_roundg (n - (j + 1))
              case measure => omega
              case rel => exact ⟨j + 1, (c3 : Int), l', by omega, rfl, by go_num, rfl, by omega, by omega, by omega, hN', H7.out⟩
            · go_roundg (n - (j + 1))
              case measure => omega
              case rel => exact ⟨j + 1, (p : Int), l', by omega, rfl, by go_num, rfl, by omega, by omega, by omega, hN', H7.out⟩
      · replace hst := Lib.hid hst
        go_wp2_with fail
        refine Calls.mono (send_none _ _) ?_
        rintro e w4 ⟨rfl, hb4⟩
        have z4 := Below.size hb4; try simp only [World.size_alloc, World.size_setCell, World.size_drew] at z4
        have H4 := hst.out.thru hb4
        go_wp2_with fail
        refine Calls.mono (may_none _ _ _) ?_
        rintro e w5 ⟨rfl, hb5⟩
        have z5 := Below.size hb5; try simp only [World.size_alloc, World.size_setCell, World.size_drew] at z5
        have H5 := H4.thru hb5
        go_wp2_with fail
        refine Calls.mono (recv_none _ _ _) ?_
        rintro e w6 ⟨rfl, hb6⟩
        have z6 := Below.size hb6; try simp only [World.size_alloc, World.size_setCell, World.size_drew] at z6
        have H6 := H5.thru hb6
        go_wp2_with fail
        refine Calls.mono (rest_none _) ?_
        rintro e w7 ⟨rfl, hb7⟩
        have z7 := Below.size hb7; try simp only [World.size_alloc, World.size_setCell, World.size_drew] at z7
        have H7 := H6.thru hb7
        go_wp2_with fail
        refine Calls.mono (clast_none _) ?_
        rintro e w8 ⟨rfl, hb8⟩
        have z8 := Below.size hb8; try simp only [World.size_alloc, World.size_setCell, World.size_drew] at z8
        have H8 := H7.thru hb8
        go_wp2_with fail
        go_ret
        exact H8.ret rfl
end Go.Proofs.Ythodfihdmhkgeaa.Chan
