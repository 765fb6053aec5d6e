/- The walk of the statement MpoptLists. -/
import Derived.Test.YtpajedpkdfacoaaMpSame
import Derived.Test.YtpajedpkdfacoaaMpGLaw
import Derived.Test.YtpajedpkdfacoaaMpPuts
namespace Go.Proofs.Ytpajedpkdfacoaa.Mp
set_option linter.unusedSimpArgs false
set_option linter.unusedVariables false
open Go Go.RowKit Go.Shelf Go.Proofs.Ytpajedpkdfacoaa Go.Proofs.Ytpajedpkdfacoaa.Octets
open Go.Proofs.Ytpajedpkdfacoaa.Opts (El enc encs els_at encs_len encs_one encs_app Few checkL bigO big_no great_any els_in)
attribute [local irreducible] Calls

theorem mus_in {w : World} {a : Option Addr} {len cap : Nat} (h : Fits w (.slice 7 (.cons 1 (.int .i64) (.cons 1 (.int .i64) (.cons 1 (.int .i64) (.cons 1 (.int .i64) (.cons 1 (.int .i64) (.cons 1 (.int .i64) (.cons 1 .str .nil)))))))) [.slice a len cap]) :
    len ≤ maxLen ∧ (a = none → len = 0) ∧ ∃ l : List Mu, l.length = len ∧ (∀ x ∈ l, goodM x ∧ x.dat.size ≤ maxLen) ∧ Rd w a (encMs l) :=
  rows_in encM (by omega) (fun _ => rfl) (good := fun x => goodM x ∧ x.dat.size ≤ maxLen) (fun cs hf hlen => by
    obtain ⟨v0, vs0, rfl, f0, r0⟩ := fits_cons1 hf
    obtain ⟨n0, rfl, w0⟩ := fits_int f0
    obtain ⟨v1, vs1, rfl, f1, r1⟩ := fits_cons1 r0
    obtain ⟨n1, rfl, w1⟩ := fits_int f1
    obtain ⟨v2, vs2, rfl, f2, r2⟩ := fits_cons1 r1
    obtain ⟨n2, rfl, w2⟩ := fits_int f2
    obtain ⟨v3, vs3, rfl, f3, r3⟩ := fits_cons1 r2
    obtain ⟨n3, rfl, w3⟩ := fits_int f3
    obtain ⟨v4, vs4, rfl, f4, r4⟩ := fits_cons1 r3
    obtain ⟨n4, rfl, w4⟩ := fits_int f4
    obtain ⟨v5, vs5, rfl, f5, r5⟩ := fits_cons1 r4
    obtain ⟨n5, rfl, w5⟩ := fits_int f5
    obtain ⟨v6, vs6, rfl, f6, r6⟩ := fits_cons1 r5
    obtain ⟨s, rfl, w6⟩ := fits_str f6
    obtain rfl : vs6 = [] := r6
    exact ⟨⟨n0, n1, n2, n3, n4, n5, s⟩, rfl, ⟨bounds_i64 w0, bounds_i64 w1, bounds_i64 w2, bounds_i64 w3, bounds_i64 w4, bounds_i64 w5⟩, w6⟩) h
theorem findM_step {l : List El} {k : Int} {j : Nat} (hj : j < l.length) : findM (l.take (j + 1)) k =
    match oneM l[j] with
    | none => findM (l.take j) k
    | some m => if m.kind = k ∧ (findM (l.take j) k).2 = false then (m, true) else findM (l.take j) k := by
  unfold findM allM
  rw [List.take_succ_eq_append_getElem hj, List.filterMap_append, List.find?_append]
  cases h1 : (List.filterMap oneM (l.take j)).find? (isK k) with
  | some x =>
    cases h2 : oneM l[j] <;> simp [h2]
  | none =>
    cases h2 : oneM l[j] with
    | none => simp [h2]
    | some m =>
      by_cases h3 : m.kind = k <;> simp [h2, h3, isK]
theorem allM_step {l : List El} {j : Nat} (hj : j < l.length) : allM (l.take (j + 1)) = allM (l.take j) ++ (oneM l[j]).toList := by
  unfold allM
  rw [List.take_succ_eq_append_getElem hj, List.filterMap_append]
  cases h : oneM l[j] <;> simp [h]
/-- What holds while options are put behind others, one by one. -/
def Inv2 (M : List Mu) (L : List El) (n nm p : Nat) (O : List El) (e : Int) : Prop :=
  if e = 0 then O.length = n + p ∧ (∀ x ∈ O, isI64 x.1 ∧ x.2.size ≤ 3000) ∧ putAll M L = putAll (M.drop p) O ∧ (fitM (M.drop p) → fitM M)
  else putAll M L = ([], e) ∧ fitM M
theorem inv2_start (M : List Mu) (L : List El) (n nm : Nat) (h : L.length = n) (hL : ∀ x ∈ L, isI64 x.1 ∧ x.2.size ≤ 3000) : Inv2 M L n nm 0 L 0 := by
  unfold Inv2
  rw [if_pos rfl]
  exact ⟨h, hL, rfl, id⟩
theorem inv2_step {M : List Mu} {L : List El} {n nm p : Nat} {O : List El} (hp : p < M.length) (hm : M.length = nm) (hg : goodM M[p]) (hd : M[p].dat.size ≤ 600) (h : Inv2 M L n nm p O 0) :
    Inv2 M L n nm (p + 1) (O ++ [(putV M[p]).1]) (putV M[p]).2 := by
  unfold Inv2 at h ⊢
  rw [if_pos rfl] at h
  obtain ⟨h1, h2, h3, h4⟩ := h
  rw [List.drop_eq_getElem_cons hp] at h3 h4
  rw [putAll_cons] at h3
  obtain ⟨s1, s2⟩ := putV_size M[p] hd
  by_cases he : (putV M[p]).2 = 0
  · rw [if_pos he] at h3 ⊢
    refine ⟨by simp [h1]; omega, fun x hx => ?_, h3, fun hf => h4 ⟨hg, hd, fun _ => hf⟩⟩
    rcases List.mem_append.1 hx with hx | hx
    · exact h2 x hx
    · obtain rfl : x = (putV M[p]).1 := by simpa using hx
      exact ⟨s2, by omega⟩
  · rw [if_neg he] at h3 ⊢
    exact ⟨h3, h4 ⟨hg, hd, fun h => absurd h he⟩⟩
theorem inv2_end0 {M : List Mu} {L : List El} {n nm : Nat} {O : List El} (hm : M.length = nm) (h : Inv2 M L n nm nm O 0) :
    O.length = n + nm ∧ (∀ x ∈ O, isI64 x.1 ∧ x.2.size ≤ 3000) ∧ fitM M ∧ sayV L M = if checkL O = 0 then (O, 0) else ([], checkL O) := by
  unfold Inv2 at h
  rw [if_pos rfl] at h
  obtain ⟨h1, h2, h3, h4⟩ := h
  rw [List.drop_eq_nil_of_le (by omega)] at h3 h4
  rw [putAll_nil] at h3
  refine ⟨h1, h2, h4 trivial, ?_⟩
  unfold sayV
  rw [h3]
  simp only [if_true]
theorem inv2_end1 {M : List Mu} {L : List El} {n nm p : Nat} {O : List El} {e : Int} (he : ¬ e = 0) (h : Inv2 M L n nm p O e) : fitM M ∧ sayV L M = ([], e) := by
  unfold Inv2 at h
  rw [if_neg he] at h
  refine ⟨h.2, ?_⟩
  unfold sayV
  rw [h.1, if_neg he]
set_option maxRecDepth 100000 in
set_option maxHeartbeats 4000000 in
theorem lists_walk (a0 : Option Addr) (n cap0 : Nat) (k : Int) (w1 : (Lit.int .i64 k).wf = true) (a2 : Option Addr) (nm cap2 : Nat) (w : World) (h0 : Fits w (.slice 2 (.cons 1 (.int .i64) (.cons 1 .str .nil))) [.slice a0 n cap0]) (h2 : Fits w (.slice 7 (.cons 1 (.int .i64) (.cons 1 (.int .i64) (.cons 1 (.int .i64) (.cons 1 (.int .i64) (.cons 1 (.int .i64) (.cons 1 (.int .i64) (.cons 1 .str .nil)))))))) [.slice a2 nm cap2]) :
    Calls Try.prog 4 #[.slice a0 n cap0, .int .i64 k, .slice a2 nm cap2] w (Ret w (.bool true)) := by
  obtain ⟨hn, hn0, L, hl, hgood, hL⟩ := els_in h0
  obtain ⟨hm, hm0, M, hml, hgm, hM⟩ := mus_in h2
  clear w1 h0 h2
  have PG := fun W hb => great_any L n hl hn (fun o ho => (hgood o ho).2) a0 cap0 W (hL.below (w' := W) hb)
  cases hq : bigO L with
  | true =>
    simp only [hq] at PG
    clear hgood hgm hM hL hq
    replace PG := Lib.hid PG; replace hl := Lib.hid hl; replace hml := Lib.hid hml
    go_enter Try.func4, Try.ntmps4
    go_wp2_with fail
    refine Calls.mono (works_law _) ?_
    rintro e w1 ⟨rfl, hb1⟩
    have z1 := Below.size hb1; try simp only [World.size_alloc, World.size_setCell, World.size_drew] at z1
    go_wp2_with fail
    refine Calls.mono (PG.out _ hb1) ?_
    rintro e w2 ⟨rfl, hb2⟩
    have z2 := Below.size hb2; try simp only [World.size_alloc, World.size_setCell, World.size_drew] at z2
    go_wp2_with fail
    go_ret
    exact Ret.mk rfl (by repeat (first | with_reducible exact Below.refl _ _ | (with_reducible refine Below.al ?_) | (with_reducible refine Below.drew ?_) | (with_reducible refine Below.set ?_ (by first | (simp; done) | omega | (simp; omega))) | (with_reducible refine Below.thru ?_ (by assumption)) | (with_reducible refine Below.chg ?_ (by assumption) (by first | (simp; done) | omega | (simp; omega)))))
  | false =>
    simp only [hq] at PG
    obtain ⟨hn60, hs600⟩ := big_no hq
    by_cases hm30 : 30 < nm
    · have q : decide ((30 : Int) < (nm : Int)) = true := decide_eq_true (by omega)
      clear hgood hgm hM hL hq hs600
      replace PG := Lib.hid PG; replace hl := Lib.hid hl; replace hml := Lib.hid hml
      go_enter Try.func4, Try.ntmps4
      go_wp2_with fail
      refine Calls.mono (works_law _) ?_
      rintro e w1 ⟨rfl, hb1⟩
      have z1 := Below.size hb1; try simp only [World.size_alloc, World.size_setCell, World.size_drew] at z1
      go_wp2_with fail
      refine Calls.mono (PG.out _ hb1) ?_
      rintro e w2 ⟨rfl, hb2⟩
      have z2 := Below.size hb2; try simp only [World.size_alloc, World.size_setCell, World.size_drew] at z2
      go_wp2_with fail
      go_ret
      exact Ret.mk rfl (by repeat (first | with_reducible exact Below.refl _ _ | (with_reducible refine Below.al ?_) | (with_reducible refine Below.drew ?_) | (with_reducible refine Below.set ?_ (by first | (simp; done) | omega | (simp; omega))) | (with_reducible refine Below.thru ?_ (by assumption)) | (with_reducible refine Below.chg ?_ (by assumption) (by first | (simp; done) | omega | (simp; omega)))))
    · have q : decide ((30 : Int) < (nm : Int)) = false := decide_eq_false (by omega)
      obtain ⟨i1, hi1, hz1, hz11, hz12⟩ := info_parts mu_info
      obtain ⟨i0, hi, hz, hz01, hz02⟩ := info_parts el_info
      have hn60' : n ≤ 60 := by omega
      have hsz : ∀ x ∈ L, x.2.size ≤ 900000000 := fun x hx => by have := hs600 x hx; omega
      have hgood' : ∀ x ∈ L, isI64 x.1 ∧ x.2.size ≤ 3000 := fun x hx => ⟨(hgood x hx).1, by have := hs600 x hx; omega⟩
      clear hq hs600 hgood hm hn
      replace PG := Lib.hid PG; replace hl := Lib.hid hl; replace hml := Lib.hid hml; replace hgood' := Lib.hid hgood'; replace hgm := Lib.hid hgm; replace hM := Lib.hid hM; replace hL := Lib.hid hL; replace hsz := Lib.hid hsz
      go_enter Try.func4, Try.ntmps4
      go_wp2_with fail
      refine Calls.mono (works_law _) ?_
      rintro e w1 ⟨rfl, hb1⟩
      have z1 := Below.size hb1; try simp only [World.size_alloc, World.size_setCell, World.size_drew] at z1
      go_wp2_with fail
      refine Calls.mono (PG.out _ hb1) ?_
      rintro e w2 ⟨rfl, hb2⟩
      have z2 := Below.size hb2; try simp only [World.size_alloc, World.size_setCell, World.size_drew] at z2
      have H1 := (((St.zero w).thru hb1).thru hb2).row_nil (size := 7)
      have H2 := (H1.alloc (encM zeroM) 23).arr [1, 0] rfl
      obtain ⟨F0, hF0⟩ : ∃ F0, F0 = zeroM := ⟨_, rfl⟩
      have hF : (zeroM, false) = findM (L.take 0) k := rfl
      clear H1 PG
      replace H2 := Lib.hid H2
      go_wp2_with fail
      go_loopg [7, 9, 10, 11, 12] n (fun g v7 v9 i _ _ wr => ∃ (j : Nat) (a7 : Option Addr) (c7 : Nat) (A : List Mu) (f : Mu) (is : Bool), j ≤ n ∧ Hid (g = n - j) ∧ i = .int .i64 j ∧ v7 = .slice a7 A.length c7 ∧ Hid (A = allM (L.take j)) ∧ Hid ((f, is) = findM (L.take j) k) ∧ v9 = .bool is ∧ Hid (St w none0 wr [rowA 7 (.slice a7 A.length c7) A.length (encMs A), cellA w2.heap.size (encM f)]))
      case atStart => exact ⟨0, none, 0, [], zeroM, false, by omega, Lib.hid rfl, rfl, rfl, Lib.hid rfl, Lib.hid hF, rfl, H2⟩
      case round =>
        obtain ⟨j, a7, c7, A, f, is, hj, hg, rfl, rfl, hA, hfi, rfl, hst⟩ := hrel
        clear H2
        by_cases hlt : j < n
        · have hjl : j < L.length := by have := hl.out; omega
          obtain ⟨b, off, rfl, hb, hc⟩ := els_at (hL.out.below hst.out.below) hl.out (by omega)
          obtain ⟨e0, e1⟩ := hc j hjl
          have P := fun W => rget_at L[j].1 L[j].2 (hsz.out L[j] (List.getElem_mem hjl)) W
          have hA2 := allM_step hjl
          have hf2 := findM_step (k := k) hjl
          have hAl : A.length ≤ j := by rw [hA.out]; exact Nat.le_trans (allM_len _) (by simp; omega)
          rw [← hA.out] at hA2
          rw [← hfi.out] at hf2
          unfold oneM at hA2 hf2
          clear hc hA hfi
          generalize L[j] = x at *
          obtain ⟨x1, x2⟩ := x
          simp only at P hA2 hf2 e0 e1
          generalize getV x1 x2 = R at *
          obtain ⟨m, e⟩ := R
          obtain ⟨m0, m1, m2, m3, m4, m5, m6⟩ := m
          simp only [encM, List.toArray] at P
          replace P := Lib.hid P; replace hst := Lib.hid hst
          by_cases he : e = 0
          · subst he
            simp only [if_true, Option.toList] at hA2 hf2
            replace hA2 := Lib.hid hA2; replace hf2 := Lib.hid hf2
            go_wp2_with fail
            refine Calls.mono (P.out _) ?_
            rintro e w5 ⟨rfl, hb5⟩
            have H3 := (hst.out.thru hb5).alloc [.int .i64 m0, .int .i64 m1, .int .i64 m2, .int .i64 m3, .int .i64 m4, .int .i64 m5, .string m6] 23
            obtain ⟨z3, k3, q3⟩ := H3.box 0 rfl
            obtain ⟨f0, f1, f2, f3, f4, f5, f6⟩ := f
            simp only [encM] at H3
            clear P hst
            replace H3 := Lib.hid H3
            cases is with
            | true =>
              simp only [Bool.true_eq_false, and_false, if_false] at hf2
              by_cases hmk : m0 = k
              · have qk : (m0 == k) = true := by simpa using hmk
                replace hmk := Lib.hid hmk
                go_wp2_with (at_builtin; (refine wpList_appS rfl (.tmp 48) (.tmp 50) _ rfl 23 i1 _ 7 64 Try.underlying35 hi1 hz1 hz11 hz12 rfl (by omega) 1 _ A.length _ rfl H3.out rfl 1 1 [.int .i64 m0, .int .i64 m1, .int .i64 m2, .int .i64 m3, .int .i64 m4, .int .i64 m5, .string m6] rfl rfl (by simp [Value.oneCell']) (by omega) (by omega) ?_; intro wv5 w5 H6; obtain ⟨a6, c6, rfl, _⟩ := St.slice (by omega) 0 H6 rfl; obtain ⟨z6, k6, q6⟩ := H6.box 1 rfl; obtain ⟨z7, k7, q7⟩ := H6.box 2 rfl; replace H6 := Lib.hid H6))
                go_roundg (n - (j + 1))
                case measure => have := hg.out; omega
                case rel =>
                  refine ⟨j + 1, a6, c6, A ++ [⟨m0, m1, m2, m3, m4, m5, m6⟩], ⟨f0, f1, f2, f3, f4, f5, f6⟩, true, by omega, Lib.hid rfl, by go_num, by simp, Lib.hid hA2.out.symm, Lib.hid hf2.out.symm, rfl, ?_⟩
                  rw [List.length_append, ← encMs_app]
                  exact Lib.hid ((H6.out.arr [0, 2, 1] rfl).drops 2)
              · have qk : (m0 == k) = false := by simpa using hmk
                replace hmk := Lib.hid hmk
                go_wp2_with (at_builtin; (refine wpList_appS rfl (.tmp 48) (.tmp 50) _ rfl 23 i1 _ 7 64 Try.underlying35 hi1 hz1 hz11 hz12 rfl (by omega) 1 _ A.length _ rfl H3.out rfl 1 1 [.int .i64 m0, .int .i64 m1, .int .i64 m2, .int .i64 m3, .int .i64 m4, .int .i64 m5, .string m6] rfl rfl (by simp [Value.oneCell']) (by omega) (by omega) ?_; intro wv5 w5 H6; obtain ⟨a6, c6, rfl, _⟩ := St.slice (by omega) 0 H6 rfl; obtain ⟨z6, k6, q6⟩ := H6.box 1 rfl; obtain ⟨z7, k7, q7⟩ := H6.box 2 rfl; replace H6 := Lib.hid H6))
                go_roundg (n - (j + 1))
                case measure => have := hg.out; omega
                case rel =>
                  refine ⟨j + 1, a6, c6, A ++ [⟨m0, m1, m2, m3, m4, m5, m6⟩], ⟨f0, f1, f2, f3, f4, f5, f6⟩, true, by omega, Lib.hid rfl, by go_num, by simp, Lib.hid hA2.out.symm, Lib.hid hf2.out.symm, rfl, ?_⟩
                  rw [List.length_append, ← encMs_app]
                  exact Lib.hid ((H6.out.arr [0, 2, 1] rfl).drops 2)
            | false =>
              by_cases hmk : m0 = k
              · have qk : (m0 == k) = true := by simpa using hmk
                rw [if_pos ⟨hmk, rfl⟩] at hf2
                replace hmk := Lib.hid hmk
                have hnw : ¬ w5.heap.size = w2.heap.size := H3.out.ne_cells 0 2 rfl rfl (by decide)
                have hnw2 : ¬ w2.heap.size = w5.heap.size := fun e => hnw e.symm
                go_wp2_with (at_builtin; (refine wpList_appS rfl (.tmp 48) (.tmp 50) _ rfl 23 i1 _ 7 64 Try.underlying35 hi1 hz1 hz11 hz12 rfl (by omega) 1 _ A.length _ rfl H3.out rfl 1 1 [.int .i64 m0, .int .i64 m1, .int .i64 m2, .int .i64 m3, .int .i64 m4, .int .i64 m5, .string m6] rfl rfl (by simp [Value.oneCell']) (by omega) (by omega) ?_; intro wv5 w5 H6; obtain ⟨a6, c6, rfl, _⟩ := St.slice (by omega) 0 H6 rfl; obtain ⟨z6, k6, q6⟩ := H6.box 1 rfl; obtain ⟨z7, k7, q7⟩ := H6.box 2 rfl; replace H6 := Lib.hid H6))
                have H6' : St w none0 _ (cellA w2.heap.size [.int .i64 f0, .int .i64 f1, .int .i64 f2, .int .i64 f3, .int .i64 f4, .int .i64 f5, .string f6] :: _) := H6.out.front 2 rfl
                have H7 := ((((((((((((((H6').set 0 rfl 0 (.int .i64 m0) (by simp))).set 0 rfl 1 (.int .i64 m1) (by simp))).set 0 rfl 2 (.int .i64 m2) (by simp))).set 0 rfl 3 (.int .i64 m3) (by simp))).set 0 rfl 4 (.int .i64 m4) (by simp))).set 0 rfl 5 (.int .i64 m5) (by simp))).set 0 rfl 6 (.string m6) (by simp))
                clear H6'
                replace H7 := Lib.hid H7
                go_roundg (n - (j + 1))
                case measure => have := hg.out; omega
                case rel =>
                  refine ⟨j + 1, a6, c6, A ++ [⟨m0, m1, m2, m3, m4, m5, m6⟩], ⟨m0, m1, m2, m3, m4, m5, m6⟩, true, by omega, Lib.hid rfl, by go_num, by simp, Lib.hid hA2.out.symm, Lib.hid hf2.out.symm, rfl, ?_⟩
                  rw [List.length_append, ← encMs_app]
                  exact Lib.hid (((H7.out.arr [1, 2, 0] rfl).arr [0, 2, 1] rfl).drops 2)
              · have qk : (m0 == k) = false := by simpa using hmk
                simp only [hmk, false_and, if_false] at hf2
                replace hmk := Lib.hid hmk
                go_wp2_with (at_builtin; (refine wpList_appS rfl (.tmp 48) (.tmp 50) _ rfl 23 i1 _ 7 64 Try.underlying35 hi1 hz1 hz11 hz12 rfl (by omega) 1 _ A.length _ rfl H3.out rfl 1 1 [.int .i64 m0, .int .i64 m1, .int .i64 m2, .int .i64 m3, .int .i64 m4, .int .i64 m5, .string m6] rfl rfl (by simp [Value.oneCell']) (by omega) (by omega) ?_; intro wv5 w5 H6; obtain ⟨a6, c6, rfl, _⟩ := St.slice (by omega) 0 H6 rfl; obtain ⟨z6, k6, q6⟩ := H6.box 1 rfl; obtain ⟨z7, k7, q7⟩ := H6.box 2 rfl; replace H6 := Lib.hid H6))
                go_roundg (n - (j + 1))
                case measure => have := hg.out; omega
                case rel =>
                  refine ⟨j + 1, a6, c6, A ++ [⟨m0, m1, m2, m3, m4, m5, m6⟩], ⟨f0, f1, f2, f3, f4, f5, f6⟩, false, by omega, Lib.hid rfl, by go_num, by simp, Lib.hid hA2.out.symm, Lib.hid hf2.out.symm, rfl, ?_⟩
                  rw [List.length_append, ← encMs_app]
                  exact Lib.hid ((H6.out.arr [0, 2, 1] rfl).drops 2)
          · have q0 : (e != 0) = true := by simpa using he
            rw [if_neg he] at hA2 hf2
            simp only [Option.toList, List.append_nil] at hA2 hf2
            replace hA2 := Lib.hid hA2; replace hf2 := Lib.hid hf2; replace he := Lib.hid he
            go_wp2_with fail
            refine Calls.mono (P.out _) ?_
            rintro e w5 ⟨rfl, hb5⟩
            have H3 := (hst.out.thru hb5).alloc [.int .i64 m0, .int .i64 m1, .int .i64 m2, .int .i64 m3, .int .i64 m4, .int .i64 m5, .string m6] 23
            clear P hst
            replace H3 := Lib.hid H3
            go_wp2_with fail
            go_roundg (n - (j + 1))
            case measure => have := hg.out; omega
            case rel => exact ⟨j + 1, a7, c7, A, f, is, by omega, Lib.hid rfl, by go_num, rfl, Lib.hid hA2.out.symm, Lib.hid hf2.out.symm, rfl, Lib.hid ((H3.out.arr [1, 2, 0] rfl).drops 2)⟩
        · obtain rfl : j = n := by omega
          have hjt : L.take j = L := List.take_of_length_le (by have := hl.out; omega)
          rw [hjt] at hA hfi
          have PF := fun W h => find_any L j cap0 k hl.out (by omega) hsz.out a0 W h
          have PA := fun W h => all_any L j cap0 hl.out (by omega) hsz.out a0 W h
          rw [← hA.out] at PA
          simp only [← hfi.out] at PF
          have hAl : A.length ≤ j := by rw [hA.out, ← hl.out]; exact allM_len _
          obtain ⟨f0, f1, f2, f3, f4, f5, f6⟩ := f
          simp only [encM, List.toArray] at PF
          have hqq := eqM_self ⟨f0, f1, f2, f3, f4, f5, f6⟩
          have hqi : (is != is) = false := by simp
          clear hjt hA hfi
          replace PF := Lib.hid PF; replace PA := Lib.hid PA
          go_wp2_with fail
          refine Calls.mono (PF.out _ (hL.out.below hst.out.below)) ?_
          rintro e w5 ⟨rfl, hb5⟩
          have H3 := (hst.out.thru hb5).alloc [.int .i64 f0, .int .i64 f1, .int .i64 f2, .int .i64 f3, .int .i64 f4, .int .i64 f5, .string f6] 23
          clear PF hst
          replace H3 := Lib.hid H3
          go_wp2_with fail
          refine Calls.mono (PA.out _ (hL.out.below H3.out.below)) ?_
          rintro e w6 ⟨va, rfl, HA⟩
          have H4 := H3.out.add HA
          clear PA H3 HA
          obtain ⟨a8, c8, rfl, _⟩ := St.slice (by omega) 0 H4 rfl
          have PS := same_self A A.length A.length rfl rfl (by omega) a8 a7 c8 c7 w6 (St.rd (by omega) 0 H4 rfl) (St.rd (by omega) 2 H4 rfl)
          replace H4 := Lib.hid H4
          go_wp2_with fail
          refine Calls.mono PS ?_
          rintro e w7 ⟨rfl, hb7⟩
          have H5 := H4.out.thru hb7
          obtain ⟨z8, k8, q8⟩ := H5.box 1 rfl
          obtain ⟨z9, k9, q9⟩ := H5.box 3 rfl
          simp only [encM] at k9
          have E1 := (H5.drops 0).alloc [] 26
          have E2 := E1.row_empty (size := 2) 0 rfl
          have hr := hL.out.of_st E2
          clear H4 PS
          have hz0 : (ByteArray.mk #[]).size = 0 := rfl
          clear H5
          replace E2 := Lib.hid E2; replace hr := Lib.hid hr; replace hqi := Lib.hid hqi
          go_wp2_with (at_builtin; (refine wpList_appRd rfl (.tmp 82) (.tmp 83) _ rfl 26 i0 _ 2 24 Try.underlying34 hi hz hz01 hz02 rfl (by omega) 0 _ 0 [] rfl E2.out rfl _ j cap0 (encs L) rfl (by rw [encs_len, hl.out]) hr.out hn0 (encs_one L) (by omega) (by omega) ?_; intro v9 w9 HB; obtain ⟨a15, c15, rfl, _⟩ := St.slice (by omega) 0 HB rfl; replace HB := Lib.hid HB))
          have H10 : St w none0 w9 [rowA 2 (.slice a15 (j + 0) c15) (j + 0) (encs L)] := by have := HB.out; simpa using this
          clear HB E2 hr
          have hI0 : Inv2 M L j nm 0 L 0 := inv2_start M L j nm (by rw [hl.out]) hgood'.out
          replace hI0 := Lib.hid hI0
          replace H10 := Lib.hid H10
          go_loopg [15, 16, 17, 18, 19] nm (fun g v15 v16 i _ _ wr => ∃ (p : Nat) (O : List El) (a15 : Option Addr) (c15 : Nat) (e : Int), p ≤ nm ∧ Hid (g = nm - p) ∧ i = .int .i64 p ∧ v16 = .int .i64 e ∧ v15 = .slice a15 (j + p) c15 ∧ Hid (Inv2 M L j nm p O e) ∧ Hid (St w none0 wr [rowA 2 (.slice a15 (j + p) c15) (j + p) (encs O)]))
          case atStart => exact ⟨0, L, a15, c15, 0, by omega, Lib.hid rfl, rfl, rfl, by simp, hI0, H10⟩
          case round =>
            obtain ⟨p, O, a15, c15, e, hp, hg, rfl, rfl, rfl, hI, hst⟩ := hrel
            clear H10 hI0
            by_cases he : e = 0
            · subst he
              by_cases hlt : p < nm
              · have hpM : p < M.length := by have := hml.out; omega
                obtain ⟨b, off, rfl, hb, hc⟩ := mus_at (hM.out.below hst.out.below) hml.out (by omega)
                obtain ⟨e0, e1, e2, e3, e4, e5, e6⟩ := hc p hpM
                obtain ⟨hgo, hsx⟩ := hgm.out M[p] (List.getElem_mem hpM)
                unfold maxLen at hsx
                have hst2 : M[p].dat.size ≤ 600 → Inv2 M L j nm (p + 1) (O ++ [(putV M[p]).1]) (putV M[p]).2 := fun h => inv2_step hpM hml.out hgo h hI.out
                have P := fun (h : M[p].dat.size ≤ 600) W => rput_any M[p] h W
                rw [← put_same] at P
                clear hc hI
                generalize M[p] = x at *
                obtain ⟨x0, x1, x2, x3, x4, x5, x6⟩ := x
                simp only at e0 e1 e2 e3 e4 e5 e6 hst2 hsx P
                by_cases h6 : 600 < x6.size
                · have q6 : decide ((600 : Int) < (x6.size : Int)) = true := decide_eq_true (by omega)
                  replace hst2 := Lib.hid hst2; replace P := Lib.hid P; replace h6 := Lib.hid h6
                  go_wp2_with fail
                  go_ret
                  exact hst.out.ret rfl
                · have q6 : decide ((600 : Int) < (x6.size : Int)) = false := decide_eq_false (by omega)
                  have hI2 := hst2 (by omega)
                  have P2 := P (by omega)
                  clear P hst2 h6
                  simp only [encM] at P2
                  generalize putV ⟨x0, x1, x2, x3, x4, x5, x6⟩ = q at *
                  obtain ⟨⟨o1, o2⟩, e⟩ := q
                  simp only at P2 hI2
                  replace P2 := Lib.hid P2; replace hI2 := Lib.hid hI2
                  go_wp2_with fail
                  refine Calls.mono (P2.out _) ?_
                  rintro e w10 ⟨rfl, hb10⟩
                  have H11 := (hst.out.thru hb10).alloc [.int .i64 o1, .string o2] 26
                  obtain ⟨z11, k11, q11⟩ := H11.box 0 rfl
                  clear P2 hst
                  replace H11 := Lib.hid H11
                  go_wp2_with (at_builtin; (refine wpList_appS rfl (.tmp 111) (.tmp 113) _ rfl 26 i0 _ 2 24 Try.underlying34 hi hz hz01 hz02 rfl (by omega) 1 _ (j + p) _ rfl H11.out rfl 1 1 [.int .i64 o1, .string o2] rfl rfl (by simp [Value.oneCell']) (by omega) (by omega) ?_; intro wv5 w12 H12; obtain ⟨a16, c16, rfl, _⟩ := St.slice (by omega) 0 H12 rfl; replace H12 := Lib.hid H12))
                  go_roundg (nm - (p + 1))
                  case measure => have := hg.out; omega
                  case rel =>
                    refine ⟨p + 1, O ++ [(o1, o2)], a16, c16, e, by omega, Lib.hid rfl, by go_num, rfl, rfl, hI2, ?_⟩
                    have := H12.out.drops 1
                    rw [show j + p + 1 = j + (p + 1) by omega] at this
                    rw [← encs_app]
                    exact Lib.hid this
              · obtain rfl : p = nm := by omega
                obtain ⟨hO, hfo, hfit, hsay⟩ := inv2_end0 hml.out hI.out
                have R := St.rd (by omega) 0 hst.out rfl
                have PC := fun W hW => Go.Proofs.Ytpajedpkdfacoaa.Opts.rcheck_any O (j + p) hO ⟨by omega, hfo⟩ a15 c15 W (R.below (w' := W) hW)
                have PY := fun W h1 h2 => say_any L a0 j cap0 hl.out (by omega) hgood'.out hn0 M a2 p cap2 hml.out (by omega) hfit W h1 h2
                obtain ⟨ck, hck⟩ : ∃ ck, checkL O = ck := ⟨_, rfl⟩
                simp only [hck] at PC hsay
                clear hck hI R
                replace PC := Lib.hid PC; replace hO := Lib.hid hO; replace hfo := Lib.hid hfo; replace hfit := Lib.hid hfit
                by_cases hc0 : ck = 0
                · subst hc0
                  rw [if_pos rfl] at hsay
                  simp only [hsay] at PY
                  clear hsay
                  have hS := Go.Proofs.Ytpajedpkdfacoaa.Opts.same_any O O (j + p) (j + p) hO.out hO.out (by omega) (by omega)
                  simp only [Go.Proofs.Ytpajedpkdfacoaa.Opts.sameL_self] at hS
                  replace PY := Lib.hid PY; replace hS := Lib.hid hS
                  go_wp2_with fail
                  refine Calls.mono (PC.out _ (Below.refl _ _)) ?_
                  rintro e w13 ⟨rfl, hb13⟩
                  have H13 := hst.out.thru hb13
                  clear PC hst
                  replace H13 := Lib.hid H13
                  go_wp2_with fail
                  refine Calls.mono (PY.out _ (hL.out.below H13.out.below) (hM.out.below H13.out.below)) ?_
                  rintro e w14 ⟨vy, rfl, HY⟩
                  have H14 := H13.out.add HY
                  simp only [hO.out] at H14
                  clear PY H13 HY
                  obtain ⟨a17, c17, rfl, _⟩ := St.slice (by omega) 0 H14 rfl
                  have PS := hS.out a17 a15 c17 c15 w14 (St.rd (by omega) 0 H14 rfl) (St.rd (by omega) 1 H14 rfl)
                  clear hS
                  replace H14 := Lib.hid H14; replace PS := Lib.hid PS
                  go_wp2_with fail
                  refine Calls.mono PS.out ?_
                  rintro e w15 ⟨rfl, hb15⟩
                  have H15 := H14.out.thru hb15
                  clear PS H14
                  replace H15 := Lib.hid H15
                  go_wp2_with fail
                  go_ret
                  exact H15.out.ret rfl
                · rw [if_neg hc0] at hsay
                  simp only [hsay] at PY
                  have qc1 : (ck == ck) = true := by simp
                  have qc2 : (ck == 0) = false := by simpa using hc0
                  have qc3 : (ck != 0) = true := by simpa using hc0
                  clear hsay
                  replace PY := Lib.hid PY; replace hc0 := Lib.hid hc0
                  go_wp2_with fail
                  refine Calls.mono (PC.out _ (Below.refl _ _)) ?_
                  rintro e w13 ⟨rfl, hb13⟩
                  have H13 := hst.out.thru hb13
                  clear PC hst
                  replace H13 := Lib.hid H13
                  go_wp2_with fail
                  refine Calls.mono (PY.out _ (hL.out.below H13.out.below) (hM.out.below H13.out.below)) ?_
                  rintro e w14 ⟨vy, rfl, HY⟩
                  have H14 := H13.out.add HY
                  simp only [List.length_nil] at H14
                  clear PY H13 HY
                  obtain ⟨a17, c17, rfl, _⟩ := St.slice (by omega) 0 H14 rfl
                  replace H14 := Lib.hid H14
                  go_wp2_with fail
                  go_ret
                  exact H14.out.ret rfl
            · have qc1 : (e == e) = true := by simp
              have qc2 : (e == 0) = false := by simpa using he
              have qc3 : (e != 0) = true := by simpa using he
              obtain ⟨hfit, hsay⟩ := inv2_end1 he hI.out
              have PY := fun W h1 h2 => say_any L a0 j cap0 hl.out (by omega) hgood'.out hn0 M a2 nm cap2 hml.out (by omega) hfit W h1 h2
              simp only [hsay] at PY
              have H13 := hst.out
              clear hsay hI hst
              replace PY := Lib.hid PY; replace he := Lib.hid he; replace H13 := Lib.hid H13; replace hfit := Lib.hid hfit
              by_cases hlt : p < nm
              · go_wp2_with fail
                refine Calls.mono (PY.out _ (hL.out.below H13.out.below) (hM.out.below H13.out.below)) ?_
                rintro e w14 ⟨vy, rfl, HY⟩
                have H14 := H13.out.add HY
                simp only [List.length_nil] at H14
                clear PY H13 HY
                obtain ⟨a17, c17, rfl, _⟩ := St.slice (by omega) 0 H14 rfl
                replace H14 := Lib.hid H14
                go_wp2_with fail
                go_ret
                exact H14.out.ret rfl
              · obtain rfl : p = nm := by omega
                go_wp2_with fail
                refine Calls.mono (PY.out _ (hL.out.below H13.out.below) (hM.out.below H13.out.below)) ?_
                rintro e w14 ⟨vy, rfl, HY⟩
                have H14 := H13.out.add HY
                simp only [List.length_nil] at H14
                clear PY H13 HY
                obtain ⟨a17, c17, rfl, _⟩ := St.slice (by omega) 0 H14 rfl
                replace H14 := Lib.hid H14
                go_wp2_with fail
                go_ret
                exact H14.out.ret rfl
end Go.Proofs.Ytpajedpkdfacoaa.Mp
