/- The walk of the statement DockDoes: any steps of a dock come to what the chapter says. -/
import Derived.Test.YtiaefmmcakagpaaDockStep
namespace Go.Proofs.Ytiaefmmcakagpaa.DockLaw
set_option linter.unusedSimpArgs false
set_option linter.unusedVariables false
open Go Go.RowKit Go.Proofs.Ytiaefmmcakagpaa Go.Proofs.Ytiaefmmcakagpaa.DockSInt Go.Proofs.Ytiaefmmcakagpaa.DockRef
attribute [local irreducible] Calls

structure Dop where
  kind : Int
  x : Int
  n : Int
def encD (o : Dop) : List Value := [.int .i64 o.kind, .int .i64 o.x, .int .i64 o.n]
theorem dops_in {w : World} {a : Option Addr} {len cap : Nat} (h : Fits w (.slice 3 (.cons 1 (.int .i64) (.cons 1 (.int .i64) (.cons 1 (.int .i64) .nil)))) [.slice a len cap]) :
    len ≤ maxLen ∧ (a = none → len = 0) ∧ ∃ l : List Dop, l.length = len ∧ (∀ x ∈ l, True) ∧ Rd w a (l.flatMap encD) :=
  rows_in (size := 3) encD (by omega) (fun _ => rfl) (fun cs hf hlen => by
    obtain ⟨v, vs, rfl, f0, r0⟩ := fits_cons1 hf
    obtain ⟨n, rfl, wn⟩ := fits_int f0
    obtain ⟨v', vs', rfl, f1, r1⟩ := fits_cons1 r0
    obtain ⟨t, rfl, wt⟩ := fits_int f1
    obtain ⟨v2, vs2, rfl, f2, r2⟩ := fits_cons1 r1
    obtain ⟨u, rfl, wu⟩ := fits_int f2
    obtain rfl : vs2 = [] := by simpa using hlen
    exact ⟨⟨n, t, u⟩, rfl, trivial⟩) h
theorem dops_at {w : World} {a : Option Addr} {l : List Dop} (h : Rd w a (l.flatMap encD)) {n : Nat} (hn : l.length = n) (h0 : 0 < n) :
    ∃ b off, a = some ⟨b, off, none⟩ ∧ b < w.heap.size ∧ ∀ i (hi : i < l.length), w.cell? ⟨b, off + i * 3, none⟩ = some (.int .i64 l[i].kind) ∧ w.cell? ⟨b, off + i * 3 + 1, none⟩ = some (.int .i64 l[i].x) ∧ w.cell? ⟨b, off + i * 3 + 2, none⟩ = some (.int .i64 l[i].n) := by
  obtain ⟨b, off, e, hb, hc⟩ := Rd.rows (enc := encD) (size := 3) (fun _ => rfl) (by omega) h hn h0
  exact ⟨b, off, e, hb, fun i hi => ⟨hc i hi 0 _ rfl, hc i hi 1 _ rfl, hc i hi 2 _ rfl⟩⟩
section
variable {W w : World} {S0 : Nat → Prop} {r : List Asn}
theorem len_st {d : Nat} {most : Int} {l : List Int} (H : St W S0 w (dockA d most l :: r)) : Calls Try.prog 16 #[.pointer (some ⟨d, 0, none⟩)] w (Ret w (.int .i64 l.length)) := by
  obtain ⟨S1, h, _⟩ := H.at 0 rfl
  exact len_any d most l w S1 h
theorem first_st {d : Nat} {most : Int} {l : List Int} (H : St W S0 w (dockA d most l :: r)) : Calls Try.prog 15 #[.pointer (some ⟨d, 0, none⟩)] w (Ret w (.tuple #[.int .i64 (l.headD 0), .bool (!l.isEmpty)])) := by
  obtain ⟨S1, h, _⟩ := H.at 0 rfl
  cases l with
  | nil => exact first_nil d most w S1 h
  | cons x l => exact first_cons d most x l w S1 h
theorem all_st {d : Nat} {most far : Int} (hfar : isI64 far) {l : List Int} (hl : l.length ≤ 100000) (H : St W S0 w (dockA d most l :: r)) :
    Calls Try.prog 18 #[.pointer (some ⟨d, 0, none⟩), .int .i64 far] w (fun e w' => ∃ v, e = .returned v ∧ St W S0 w' (rowA 1 v (l.take (max far 1).toNat).length (i64s (l.take (max far 1).toNat)) :: dockA d most l :: r)) := by
  obtain ⟨S8, h8, _, hback⟩ := H.at 0 rfl
  have P8 := all_any d most far hfar l hl _ S8 h8
  rw [encs_i64s] at P8
  refine Calls.mono P8 ?_
  rintro e w' ⟨v, rfl, h⟩
  exact ⟨v, rfl, hback _ _ h⟩
end
set_option maxRecDepth 100000 in
set_option maxHeartbeats 1000000 in
theorem does_walk (a0 : Int) (w0 : (Lit.int .i64 a0).wf = true) (a1 : Option Addr) (len1 cap1 : Nat) (a2 : Int) (w2 : (Lit.int .i64 a2).wf = true) (w : World) (h1 : Fits w (.slice 3 (.cons 1 (.int .i64) (.cons 1 (.int .i64) (.cons 1 (.int .i64) .nil)))) [.slice a1 len1 cap1]) :
    Calls Try.prog 3 #[.int .i64 a0, .slice a1 len1 cap1, .int .i64 a2] w (Ret w (.bool true)) := by
  obtain ⟨hmax, _, L, hL, _, hR⟩ := dops_in h1
  have hfar : isI64 a2 := by simp [Lit.wf] at w2; exact ⟨w2.1, w2.2⟩
  unfold maxLen at hmax
  clear h1 w0 w2
  replace hL := Lib.hid hL; replace hR := Lib.hid hR; replace hfar := Lib.hid hfar
  go_enter Try.func3, Try.ntmps3
  go_wp2_with fail
  refine Calls.mono (works_law _) ?_
  rintro e w1 ⟨rfl, hb1⟩
  have z1 := Below.size hb1; try simp only [World.size_alloc, World.size_setCell, World.size_drew] at z1
  by_cases h200 : 200 < len1
  · have q : decide ((200 : Int) < len1) = true := decide_eq_true (by omega)
    go_wp2_with fail
    go_ret
    exact Ret.mk rfl hb1
  · have q : decide ((200 : Int) < len1) = false := decide_eq_false (by omega)
    have q200 : len1 ≤ 200 := by omega
    have HW := (St.zero w).thru hb1
    replace HW := Lib.hid HW
    go_wp2_with fail
    refine Calls.mono (new_any a0 _) ?_
    rintro e w2 ⟨d, rfl, H2⟩
    have H3 := HW.out.add H2
    clear H2 HW
    replace H3 := Lib.hid H3
    go_wp2_with fail
    refine Calls.mono (rnew_any a0 _) ?_
    rintro e w3 ⟨t, rfl, H4⟩
    have H5 : St w none0 w3 [dockA d (min (max a0 0) 1000) [], refD t (min (max a0 0) 1000) []] := (H3.out.add H4).arrN [1, 0] rfl
    have hM0 : 0 ≤ min (max a0 0) 1000 := by omega
    have hM1 : min (max a0 0) 1000 ≤ 1000 := by omega
    generalize min (max a0 0) 1000 = M at *
    clear H3 H4
    replace H5 := Lib.hid H5
    go_wp2_with fail
    go_loopg [9] len1 (fun g v9 wr => ∃ (i : Nat) (l : List Int), i ≤ len1 ∧ Hid (g = len1 - i) ∧ v9 = .int .i64 i ∧ Hid ((l.length : Int) ≤ M) ∧ Hid (St w none0 wr [dockA d M l, refD t M l]))
    case atStart => exact ⟨0, [], by omega, Lib.hid rfl, rfl, Lib.hid hM0, H5⟩
    case round =>
      obtain ⟨i, l, hi, hg, rfl, hlm, hst⟩ := hrel
      clear H5
      have hl : l.length ≤ 1000 := by have := hlm.out; omega
      by_cases hlt : i < len1
      · have hil : i < L.length := by have := hL.out; omega
        obtain ⟨b, off, rfl, hb, hc⟩ := dops_at (hR.out.below (St.below hst.out)) hL.out (by omega)
        obtain ⟨e0, e1, e2⟩ := hc i hil
        clear hc
        generalize L[i] = o at *
        obtain ⟨kind, x, n⟩ := o
        simp only at e0 e1 e2
        have P := step_any d t M kind x n l (by omega) hM0 hlm.out hst.out
        have hlm2 := stepD_len M kind x n l hlm.out
        generalize stepD M kind x n l = l' at *
        clear hst hlm hl
        replace P := Lib.hid P; replace hlm2 := Lib.hid hlm2
        go_wp2_with fail
        refine Calls.mono P.out ?_
        rintro e w4 ⟨rfl, H4⟩
        clear P
        have PF := first_st H4
        replace hlm2 := hlm2.out
        cases l' with
        | nil =>
          simp only [List.headD_nil, List.headD_cons, List.isEmpty_nil, List.isEmpty_cons, Bool.not_true, Bool.not_false] at PF
          replace H4 := Lib.hid H4; replace PF := Lib.hid PF
          go_wp2_with fail
          refine Calls.mono PF.out ?_
          rintro e w5 ⟨rfl, hb5⟩
          have H5 := H4.out.thru hb5
          clear H4 PF
          obtain ⟨a, cap, HQ⟩ := refD_open (H5.arrN [1, 0] rfl)
          obtain ⟨zt, ct, ft⟩ := HQ.box 0 rfl
          have PL := fun (s' : Near w5.heap.size w5) => len_st (H5.thruB (by simp) (Near.near s'))
          have y0 : decide (M < 0) = false := decide_eq_false (by omega)
          clear HQ
          replace H5 := Lib.hid H5; replace PL := Lib.hid PL
          go_wp2_with fail
          refine wp_region_near (by kernel_rfl) (by kernel_rfl) ?_
          intro hs
          repeat (go_big_quiet_step ((go_at_call 16; exact Calls.near (by simp) (PL.out _))))
          refine wpQuiet_nil ?_
          clear hs
          intro w6 hb6
          have H6 := H5.out.thru hb6
          clear PL H5
          replace H6 := Lib.hid H6
          go_wp2_with fail
          go_roundg (len1 - (i + 1))
          case measure => have := hg.out; omega
          case rel => exact ⟨i + 1, [], by omega, Lib.hid rfl, by go_num, Lib.hid (by first | exact hM0 | (simp only [List.length_cons]; omega)), H6⟩
        | cons y l' =>
          simp only [List.headD_nil, List.headD_cons, List.isEmpty_nil, List.isEmpty_cons, Bool.not_true, Bool.not_false] at PF
          replace H4 := Lib.hid H4; replace PF := Lib.hid PF
          go_wp2_with fail
          refine Calls.mono PF.out ?_
          rintro e w5 ⟨rfl, hb5⟩
          have H5 := H4.out.thru hb5
          clear H4 PF
          obtain ⟨a, cap, HQ⟩ := refD_open (H5.arrN [1, 0] rfl)
          obtain ⟨zt, ct, ft⟩ := HQ.box 0 rfl
          have PL := fun (s' : Near w5.heap.size w5) => len_st (H5.thruB (by simp) (Near.near s'))
          obtain ⟨hx1, _, _, e, hx2, hx3, hx4⟩ := St.reads 1 HQ rfl
          cases e
          rcases hx4 with ⟨_, h0, _⟩ | ⟨g, o, rfl, hg2, hr⟩
          · simp at h0
          · have e0 := hr 0 (.int .i64 y) rfl
            simp only [Nat.add_zero] at e0
            have y1 : (y != y) = false := by simp
            have hlc : (y :: l').length = l'.length + 1 := rfl
            have hlc0 : 0 < (y :: l').length := by rw [hlc]; omega
            generalize (y :: l').length = m at *
            have y2 : ((m : Int) != (m : Int)) = false := by simp
            have y3 : decide (M < (m : Int)) = false := decide_eq_false (by omega)
            have y4 : decide ((0 : Int) < (m : Int)) = true := decide_eq_true (by omega)
            clear hx1 hr
            clear HQ
            replace H5 := Lib.hid H5; replace PL := Lib.hid PL
            go_wp2_with fail
            refine wp_region_near (by kernel_rfl) (by kernel_rfl) ?_
            intro hs
            repeat (go_big_quiet_step ((go_at_call 16; exact Calls.near (by simp) (PL.out _))))
            refine wpQuiet_nil ?_
            clear hs
            intro w6 hb6
            have H6 := H5.out.thru hb6
            clear PL H5
            replace H6 := Lib.hid H6
            go_wp2_with fail
            go_roundg (len1 - (i + 1))
            case measure => have := hg.out; omega
            case rel => exact ⟨i + 1, (y :: l'), by omega, Lib.hid rfl, by go_num, Lib.hid (by first | exact hM0 | (simp only [List.length_cons]; omega)), H6⟩
      · have hst' := hst.out
        have hlt' : ¬ (i : Int) < len1 := by omega
        obtain ⟨a, cap, HQ⟩ := refD_open (hst'.arrN [1, 0] rfl)
        have HC : St w none0 wr [cellA t [.slice a l.length cap, .int .i64 M]] := HQ.drops 1
        have H0 : St w none0 wr (dockA d M l :: cellA t [.slice a l.length cap, .int .i64 M] :: readA 1 (.slice a l.length cap) l.length (i64s l) :: []) := HQ.arrN [2, 0, 1] rfl
        obtain ⟨zt, ct, ft⟩ := HQ.box 0 rfl
        have hcl : ∀ (s' : Cls w none0 [cellA t [.slice a l.length cap, .int .i64 M]]) (i : Nat), s'.it.cell? ⟨t, i, none⟩ = [Value.slice a l.length cap, .int .i64 M][i]? := fun s' => (s'.st.box 0 rfl).cells
        have P := all_st hfar.out (by omega) H0.drew
        obtain ⟨hx1, _, _, e, hx2, hx3, hx4⟩ := St.reads 1 HQ rfl
        cases e
        obtain ⟨m, hm⟩ : ∃ m, m = (max a2 1).toNat := ⟨_, rfl⟩
        obtain ⟨k, hk⟩ : ∃ k, k = (l.take m).length := ⟨_, rfl⟩
        have hkm : min (l.length : Int) (max a2 1) = (k : Int) := by rw [hk, List.length_take]; omega
        have hkl : k ≤ l.length := by rw [hk, List.length_take]; omega
        have hkc : k ≤ cap := by omega
        rw [← hm, ← hk] at P
        unfold maxLen at hx3
        replace hk := Lib.hid hk
        clear hst' hst HQ H0 hx1 hx4 hm
        replace HC := Lib.hid HC; replace P := Lib.hid P
        go_wp2_with fail
        haveI := St.ne HC.out
        refine wp_region_madeC HC.out [0, 1, 3, 4, 5, 6, 7, 8, 9, 10, 11, 12, 13, 14, 15] [true, true, false, true, true, true, true, true, true, true, true, true, true, true, true, true, false, false] 3 #[true, true, false, true, true, true, true, true, true, true, true, true, true, true, true, true, false, false] (by kernel_rfl) rfl (by kernel_rfl) (by kernel_rfl) rfl (by kernel_rfl) (by kernel_rfl) (by intro c a a' w e h; obtain ⟨t, d⟩ := a; obtain ⟨t', d'⟩ := a'; obtain rfl : d = d' := e; exact h) ?_
        simp only [pickB]
        repeat (go_big_quiet_step (fail))
        refine wpQuiet_nil ?_
        refine held_one (i := 2) (by kernel_rfl) fun K hK => ?_
        simp only [List.drop_succ_cons, List.drop_zero, List.take_succ_cons, List.take_zero]
        go_wp2_with fail
        refine Calls.mono P.out ?_
        rintro e w4 ⟨v4, rfl, H4⟩
        have HC4 : St w none0 w4 [cellA t [.slice a l.length cap, .int .i64 M]] := (H4.arrN [2, 0, 1] rfl).drops 1
        obtain ⟨a4, c4, rfl, _⟩ := St.slice (by omega) 0 H4 rfl
        have PI := ints_any (l.take m) k hk.out.symm (by unfold maxLen; omega) a4 c4 a cap w4 (St.rd (by omega) 0 H4 rfl) (ints_pre (St.reads_rd 3 H4 rfl) m)
        clear P HC
        replace HC4 := Lib.hid HC4; replace PI := Lib.hid PI
        go_wp2_with fail
        refine hK _ _ HC4.out ?_
        clear hK K
        refine held_one (i := 16) (by kernel_rfl) fun K hK => ?_
        simp only [List.drop_succ_cons, List.drop_zero, List.take_succ_cons, List.take_zero]
        go_wp2_with fail
        refine Calls.mono PI.out ?_
        rintro e w6 ⟨rfl, hb6⟩
        have HC6 := HC4.out.thru hb6
        clear PI HC4
        replace HC6 := Lib.hid HC6
        go_wp2_with fail
        refine hK _ _ HC6.out ?_
        clear hK K
        haveI := St.ne HC6.out
        refine calmC HC6.out [17] [false, false, false, false, false, false, false, false, false, false, false, false, false, false, false, false, false, true] 0 1 #[true, true, true, true, true, true, true, true, true, true, true, true, true, true, true, true, true, false] #[true, true, true, true, true, true, true, true, true, true, true, true, true, true, true, true, true, true] rfl (by kernel_rfl) (by kernel_rfl) rfl (by kernel_rfl) (by kernel_rfl) (by intro c a a' w e h; obtain ⟨t, d⟩ := a; obtain ⟨t', d'⟩ := a'; obtain rfl : d = d' := e; exact h) ?_
        simp only [pickB]
        repeat (go_big_quiet_step (fail))
        refine wpQuiet_nil ?_
        refine held_done (by kernel_rfl) ?_
        go_wp2_with fail
        go_ret
        exact HC6.out.ret rfl
end Go.Proofs.Ytiaefmmcakagpaa.DockLaw
