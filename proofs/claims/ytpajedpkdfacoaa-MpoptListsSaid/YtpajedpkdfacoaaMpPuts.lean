/- The walk of the statement MpoptPuts. -/
import Derived.Test.YtpajedpkdfacoaaMpBack
namespace Go.Proofs.Ytpajedpkdfacoaa.Mp
set_option linter.unusedSimpArgs false
set_option linter.unusedVariables false
open Go Go.RowKit Go.Shelf Go.Proofs.Ytpajedpkdfacoaa Go.Proofs.Ytpajedpkdfacoaa.Octets
attribute [local irreducible] Calls

def m258 : Mu := ⟨4, 0, 0, 258, 0, 0, ⟨#[]⟩⟩
theorem put258 : putV m258 = ((46, ⟨#[4, 0, 0, 0, 0, 1, 2]⟩), 0) := by kernel_rfl
theorem get258 : getV 46 ⟨#[4, 0, 0, 0, 0, 1, 2]⟩ = (m258, 0) := by kernel_rfl
set_option maxRecDepth 100000 in
theorem works_law (w : World) : Calls Try.prog 6 #[] w (Ret w (.bool true)) := by
  have P := put_any m258 (by unfold goodM isI64 m258; decide) (by decide)
  rw [put258] at P
  have P2 := get_any 46 ⟨#[4, 0, 0, 0, 0, 1, 2]⟩ (by decide)
  rw [get258] at P2
  unfold m258 encM at P P2
  simp only [] at P P2
  replace P := Lib.hid P; replace P2 := Lib.hid P2
  go_enter Try.func6, Try.ntmps6
  go_wp2_with fail
  refine Calls.mono (P.out _) ?_
  rintro e w1 ⟨rfl, hb1⟩
  have z1 := Below.size hb1; try simp only [World.size_alloc, World.size_setCell, World.size_drew] at z1
  go_wp2_with fail
  refine Calls.mono (P2.out _) ?_
  rintro e w2 ⟨rfl, hb2⟩
  have z2 := Below.size hb2; try simp only [World.size_alloc, World.size_setCell, World.size_drew] at z2
  obtain ⟨c2_0, f2_0⟩ := Below.blk hb2 (b := w1.heap.size) (by first | (simp; done) | omega | (simp; omega))
  have z2_0 : w1.heap.size < w2.heap.size := (by first | (simp; done) | omega | (simp; omega))
  go_wp2_with fail
  go_ret
  exact Ret.mk rfl (by repeat (first | with_reducible exact Below.refl _ _ | (with_reducible refine Below.al ?_) | (with_reducible refine Below.drew ?_) | (with_reducible refine Below.set ?_ (by first | (simp; done) | omega | (simp; omega))) | (with_reducible refine Below.thru ?_ (by assumption)) | (with_reducible refine Below.chg ?_ (by assumption) (by first | (simp; done) | omega | (simp; omega)))))
theorem eqO (a : Int) (b : ByteArray) (w : World) : (binOp .eql 26 (.agg #[.int .i64 a, .string b]) (.agg #[.int .i64 a, .string b])).run Try.prog w = .ok (.bool true) w := by
  simp [go_sem]
theorem text_size (m : Mu) (hd : m.dat.size ≤ 600) {l : List Fd} (h3 : l.length ≤ 3) (hok : ∀ f ∈ l, okFd l f) : (textM m l).size ≤ 100000 := by
  have go : ∀ (l' : List Fd) (t : ByteArray), (∀ f ∈ l', okFd l f) → (l'.foldl (putF m) t).size ≤ t.size + 606 * l'.length := by
    intro l'
    induction l' with
    | nil => intro t _; simp
    | cons f l' ih =>
      intro t h
      have h1 := putF_size m hd t l f (h f (List.mem_cons_self ..))
      have h2 := ih (putF m t f) (fun f' hf' => h f' (List.mem_cons_of_mem _ hf'))
      rw [List.foldl_cons, List.length_cons]
      omega
  have h := go l (catB ⟨#[]⟩ (putB m.kind 1)) hok
  have h0 : (catB ⟨#[]⟩ (putB m.kind 1)).size = 1 := by rw [catB_size, putB_len]; rfl
  unfold textM
  omega
theorem mu_in {w : World} {a : Array Value} (h : Fits w (.cons 1 (.int .i64) (.cons 1 (.int .i64) (.cons 1 (.int .i64) (.cons 1 (.int .i64) (.cons 1 (.int .i64) (.cons 1 (.int .i64) (.cons 1 .str .nil))))))) a.toList) : ∃ m, a = (encM m).toArray ∧ goodM m := by
  obtain ⟨v0, vs0, e0, f0, r0⟩ := fits_cons1 h
  obtain ⟨n0, rfl, w0⟩ := fits_int f0
  obtain ⟨v1, vs1, rfl, f1, r1⟩ := fits_cons1 r0
  obtain ⟨n1, rfl, w1⟩ := fits_int f1
  obtain ⟨v2, vs2, rfl, f2, r2⟩ := fits_cons1 r1
  obtain ⟨n2, rfl, w2⟩ := fits_int f2
  obtain ⟨v3, vs3, rfl, f3, r3⟩ := fits_cons1 r2
  obtain ⟨n3, rfl, w3⟩ := fits_int f3
  obtain ⟨v4, vs4, rfl, f4, r4⟩ := fits_cons1 r3
  obtain ⟨n4, rfl, w4⟩ := fits_int f4
  obtain ⟨v5, vs5, rfl, f5, r5⟩ := fits_cons1 r4
  obtain ⟨n5, rfl, w5⟩ := fits_int f5
  obtain ⟨v6, vs6, rfl, f6, r6⟩ := fits_cons1 r5
  obtain ⟨s, rfl, w6⟩ := fits_str f6
  obtain rfl : vs6 = [] := r6
  exact ⟨⟨n0, n1, n2, n3, n4, n5, s⟩, Array.toList_inj.1 e0, bounds_i64 w0, bounds_i64 w1, bounds_i64 w2, bounds_i64 w3, bounds_i64 w4, bounds_i64 w5⟩
set_option maxRecDepth 100000 in
set_option maxHeartbeats 2000000 in
theorem puts_walk (a0 : Array Value) (w : World) (h0 : Fits w (.cons 1 (.int .i64) (.cons 1 (.int .i64) (.cons 1 (.int .i64) (.cons 1 (.int .i64) (.cons 1 (.int .i64) (.cons 1 (.int .i64) (.cons 1 .str .nil))))))) a0.toList) :
    Calls Try.prog 3 #[.agg a0] w (Ret w (.bool true)) := by
  obtain ⟨m, rfl, hg⟩ := mu_in h0
  have H := (St.zero w).alloc (encM m) 23
  by_cases hl : 600 < m.dat.size
  · obtain ⟨kind, addr, prio, num, token, nonce, dat⟩ := m
    unfold encM at *
    simp only [] at hl
    have q : decide ((600 : Int) < dat.size) = true := decide_eq_true (by omega)
    clear h0 hg
    replace H := Lib.hid H
    go_enter Try.func3, Try.ntmps3
    go_wp2_with fail
    refine Calls.mono (works_law _) ?_
    rintro e w1 ⟨rfl, hb1⟩
    have z1 := Below.size hb1; try simp only [World.size_alloc, World.size_setCell, World.size_drew] at z1
    have H1 := H.out.thru hb1
    obtain ⟨zm, cm, fm⟩ := H1.box 0 rfl
    clear H
    replace H1 := Lib.hid H1
    go_wp2_with fail
    go_ret
    exact H1.out.ret rfl
  · have P := put_any m hg (by omega)
    have PR := rput_any m (by omega)
    have PC := check_any m (by omega)
    have PD := rcheck_any m (by omega)
    rw [← put_same] at PR
    rw [← check_same] at PD
    obtain ⟨o1, o2, e, x, g, hP, hG, hx, hs⟩ : ∃ o1 o2 e x g, putV m = ((o1, o2), e) ∧ getV o1 o2 = (x, g) ∧ (e = 0 → x = m ∧ g = 0) ∧ o2.size ≤ 100000 := by
      by_cases hc : checkM m = 0
      · obtain ⟨l, hf, hgb⟩ := get_back m hc
        refine ⟨46, textM m l, 0, m, 0, ?_, hgb, fun _ => ⟨rfl, rfl⟩, ?_⟩
        · unfold putV; rw [hf]; simp only []; rw [if_pos hc]
        · obtain ⟨h3, hok⟩ := fields_ok hf
          exact text_size m (by omega) h3 hok
      · refine ⟨0, ⟨#[]⟩, checkM m, zeroM, 7, ?_, rfl, fun h => absurd h hc, by decide⟩
        unfold putV
        cases hf : fieldsO m.kind with
        | none => rfl
        | some l => simp only []; rw [if_neg hc]
    have PG := get_any o1 o2 (by omega)
    rw [hP] at P PR
    rw [hG] at PG
    simp only [] at P PR PG
    clear hP hG h0
    obtain ⟨kind, addr, prio, num, token, nonce, dat⟩ := m
    simp only [] at hl
    generalize checkM ⟨kind, addr, prio, num, token, nonce, dat⟩ = ck at *
    obtain ⟨x0, x1, x2, x3, x4, x5, x6⟩ := x
    unfold encM at *
    have q : decide ((600 : Int) < dat.size) = false := decide_eq_false (by omega)
    simp only [Mu.mk.injEq] at hx
    replace H := Lib.hid H; replace P := Lib.hid P; replace PR := Lib.hid PR; replace PC := Lib.hid PC; replace PD := Lib.hid PD; replace PG := Lib.hid PG; replace hx := Lib.hid hx; replace hg := Lib.hid hg
    go_enter Try.func3, Try.ntmps3
    go_wp2_with fail
    refine Calls.mono (works_law _) ?_
    rintro e w1 ⟨rfl, hb1⟩
    have z1 := Below.size hb1; try simp only [World.size_alloc, World.size_setCell, World.size_drew] at z1
    have H1 := H.out.thru hb1
    obtain ⟨zm1, cm1, fm1⟩ := H1.box 0 rfl
    clear H
    replace H1 := Lib.hid H1
    go_wp2_with fail
    refine Calls.mono (P.out _) ?_
    rintro e w2 ⟨rfl, hb2⟩
    have z2 := Below.size hb2; try simp only [World.size_alloc, World.size_setCell, World.size_drew] at z2
    have H2 := (H1.out.thru hb2).alloc [.int .i64 o1, .string o2] 26
    obtain ⟨zm2, cm2, fm2⟩ := H2.box 1 rfl
    clear H1 P zm1 cm1 fm1
    replace H2 := Lib.hid H2
    go_wp2_with fail
    refine Calls.mono (PR.out _) ?_
    rintro e w3 ⟨rfl, hb3⟩
    have z3 := Below.size hb3; try simp only [World.size_alloc, World.size_setCell, World.size_drew] at z3
    have H3 := (H2.out.thru hb3).alloc [.int .i64 o1, .string o2] 26
    obtain ⟨zm3, cm3, fm3⟩ := H3.box 2 rfl
    obtain ⟨zo3, co3, fo3⟩ := H3.box 1 rfl
    clear H2 PR zm2 cm2 fm2
    replace H3 := Lib.hid H3
    go_wp2_with fail
    refine Calls.mono (PG.out _) ?_
    rintro e w4 ⟨rfl, hb4⟩
    have z4 := Below.size hb4; try simp only [World.size_alloc, World.size_setCell, World.size_drew] at z4
    have H4 := (H3.out.thru hb4).alloc [.int .i64 x0, .int .i64 x1, .int .i64 x2, .int .i64 x3, .int .i64 x4, .int .i64 x5, .string x6] 23
    have H4' := H3.out.thru hb4
    obtain ⟨zm4, cm4, fm4⟩ := H4'.box 2 rfl
    obtain ⟨zo4, co4, fo4⟩ := H4'.box 1 rfl
    obtain ⟨zp4, cp4, fp4⟩ := H4'.box 0 rfl
    clear H4'
    clear H3 PG zm3 cm3 fm3 zo3 co3 fo3
    replace H4 := Lib.hid H4
    by_cases he : e = 0
    · obtain ⟨⟨rfl, rfl, rfl, rfl, rfl, rfl, rfl⟩, rfl⟩ := hx.out he
      have q8 : (e != 0) = false := by simpa using he
      replace he := Lib.hid he
      clear hx
      have hEO := eqO o1 o2
      go_wp2_with fail
      refine wp_region_near (by kernel_rfl) (by kernel_rfl) ?_
      intro hs
      repeat (go_big_quiet_step ((first | (go_at_call 10; exact Calls.near (by simp) (PC.out _)) | (go_at_call 11; exact Calls.near (by simp) (PD.out _)))))
      refine wpQuiet_nil ?_
      clear hs
      intro w6 hb6
      have H6 := H4.out.thru hb6
      clear PC PD H4
      replace H6 := Lib.hid H6
      go_wp2_with fail
      go_ret
      exact H6.out.ret rfl
    · have q8 : (e != 0) = true := by simpa using he
      replace he := Lib.hid he
      clear hx
      have hEO := eqO o1 o2
      go_wp2_with fail
      refine wp_region_near (by kernel_rfl) (by kernel_rfl) ?_
      intro hs
      repeat (go_big_quiet_step ((first | (go_at_call 10; exact Calls.near (by simp) (PC.out _)) | (go_at_call 11; exact Calls.near (by simp) (PD.out _)))))
      refine wpQuiet_nil ?_
      clear hs
      intro w6 hb6
      have H6 := H4.out.thru hb6
      clear PC PD H4
      replace H6 := Lib.hid H6
      go_wp2_with fail
      go_ret
      exact H6.out.ret rfl
end Go.Proofs.Ytpajedpkdfacoaa.Mp
