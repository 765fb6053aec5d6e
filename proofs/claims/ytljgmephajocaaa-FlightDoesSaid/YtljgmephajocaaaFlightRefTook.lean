/- The walks of the flight's answer: Took. -/
import Derived.Test.YtljgmephajocaaaFlightRef
namespace Go.Proofs.Ytljgmephajocaaa.Flight
set_option linter.unusedSimpArgs false
set_option linter.unusedVariables false
open Go Go.RowKit Go.Shelf Go.Proofs.Ytljgmephajocaaa Go.Proofs.Ytljgmephajocaaa.Circ Go.Proofs.Ytljgmephajocaaa.Avec
attribute [local irreducible] Calls

theorem encUs_at {l : List Un} {j : Nat} (hj : j < l.length) : encUs l = encUs (l.take j) ++ (encU l[j] ++ encUs (l.drop (j + 1))) := by
  have : l = l.take j ++ (l[j] :: l.drop (j + 1)) := by rw [← List.drop_eq_getElem_cons hj, List.take_append_drop]
  exact (congrArg encUs this).trans (by unfold encUs; rw [List.flatMap_append, List.flatMap_cons])
theorem un_row {W w : World} {S : Nat → Prop} {a : Option Addr} {c k : Nat} {l : List Un} {r : List Asn} (H : St W S w r) (hk : r[k]? = some (rowA 3 (.slice a l.length c) l.length (encUs l))) {j : Nat} (hj : j < l.length) :
    ∃ g o, a = some ⟨g, o, none⟩ ∧ g < w.heap.size ∧ w.cell? ⟨g, o + j * 3, none⟩ = some (.int .i64 l[j].seq) ∧ w.cell? ⟨g, o + j * 3 + 1, none⟩ = some (.int .i64 l[j].at_) ∧ w.cell? ⟨g, o + j * 3 + 2, none⟩ = some (.int .i64 l[j].later) ∧ w.frozen? ⟨g, o + j * 3 + 2, none⟩ = false := by
  obtain ⟨h0, h1⟩ := H.row k hk
  rcases h1 with ⟨_, e⟩ | ⟨g, o, cap, e, _, h2, h3, _, h4, h5⟩
  · omega
  · injection e with e1 e2 e3
    subst e1 e3
    have ha : ∀ i, (hi : i < 3) → (encUs l)[j * 3 + i]? = (encU l[j])[i]? := by
      intro i hi
      have ht : (encUs (l.take j)).length = j * 3 := by rw [encUs_len, List.length_take]; omega
      rw [encUs_at hj, List.getElem?_append_right (by omega), ht, show j * 3 + i - j * 3 = i by omega, List.getElem?_append_left (by rw [encU_len]; exact hi)]
    refine ⟨g, o, rfl, h2, ?_, ?_, ?_, ?_⟩
    · exact h4 (j * 3) _ (ha 0 (by omega))
    · rw [Nat.add_assoc]; exact h4 (j * 3 + 1) _ (ha 1 (by omega))
    · rw [Nat.add_assoc]; exact h4 (j * 3 + 2) _ (ha 2 (by omega))
    · rw [Nat.add_assoc]; exact (h5 (j * 3 + 2) (by omega)).2
theorem take_app (X Z : List Value) (i : Nat) : (X ++ Z).take (X.length + i) = X ++ Z.take i := by
  induction X with
  | nil => simp
  | cons a X ih => rw [List.length_cons, Nat.add_right_comm, List.cons_append, List.take_succ_cons, ih, List.cons_append]
theorem drop_app (X Z : List Value) (i : Nat) : (X ++ Z).drop (X.length + i) = Z.drop i := by
  induction X with
  | nil => simp
  | cons a X ih => rw [List.length_cons, Nat.add_right_comm, List.cons_append, List.drop_succ_cons, ih]
theorem un_inc {W w : World} {S : Nat → Prop} {g o c n k : Nat} {l : List Un} {r : List Asn} (H : St W S w r) (hn : l.length = n) (hk : r[k]? = some (rowA 3 (.slice (some ⟨g, o, none⟩) n c) n (encUs l))) {j : Nat} (hj : j < l.length) :
    St W S (w.setCell ⟨g, o + j * 3 + 2, none⟩ (.int .i64 (l[j].later + 1))) (rowA 3 (.slice (some ⟨g, o, none⟩) n c) n (encUs (l.take j ++ incU l[j] :: l.drop (j + 1))) :: r.eraseIdx k) := by
  have h := H.over (p := j * 3 + 2) (news := [.int .i64 (l[j].later + 1)]) hk (by have := encUs_len l; simp only [List.length_cons, List.length_nil]; omega)
  have ht : (encUs (l.take j)).length = j * 3 := by rw [encUs_len, List.length_take]; omega
  have e : (encUs l).take (j * 3 + 2) ++ [.int .i64 (l[j].later + 1)] ++ (encUs l).drop (j * 3 + 2 + 1) = encUs (l.take j ++ incU l[j] :: l.drop (j + 1)) := by
    have e2 : encUs (l.take j ++ incU l[j] :: l.drop (j + 1)) = encUs (l.take j) ++ (encU (incU l[j]) ++ encUs (l.drop (j + 1))) := by simp [encUs]
    rw [e2, encUs_at hj, Nat.add_assoc (j * 3) 2 1, ← ht, take_app, drop_app]
    simp [encU, incU]
  rw [show [Value.int .i64 (l[j].later + 1)].length = 1 from rfl, e] at h
  simpa [World.setCells, Nat.add_assoc] using h
theorem left_take {l : List Un} {j : Nat} (hj : j < l.length) : leftU (l.take (j + 1)) = leftU (l.take j) ++ (if 3 ≤ l[j].later then [] else [l[j]]) := by
  unfold leftU
  rw [List.take_succ_eq_append_getElem hj, List.filter_append]
  by_cases h : 3 ≤ l[j].later <;> simp [h]
theorem lost_take {l : List Un} {j : Nat} (hj : j < l.length) : lostU (l.take (j + 1)) = lostU (l.take j) ++ (if 3 ≤ l[j].later then [l[j]] else []) := by
  unfold lostU
  rw [List.take_succ_eq_append_getElem hj, List.filter_append]
  by_cases h : 3 ≤ l[j].later <;> simp [h]
theorem newest_snoc (l : List Un) (u : Un) : newestU (l ++ [u]) = u.seq := by simp [newestU]
set_option maxRecDepth 100000 in
set_option maxHeartbeats 1000000 in
theorem rtook_any (q : Nat) (l : List Un) (hl : l.length ≤ 1000) (hok : ∀ u ∈ l, OkU u) (fr now : Int) (R : List Run) (n cap : Nat) (hn : R.length = n) (hn2 : n ≤ 1000) (ra : Option Addr) (w : World) (S : Nat → Prop)
    (hR : ∀ w', Only w w' S → Rd w' ra (runs R)) (h : (refF q l).holds w S) :
    Calls Try.prog 47 #[.pointer (some ⟨q, 0, none⟩), .int .i64 fr, .slice ra n cap, .int .i64 now] w
      (Fin w S (newsV (hearA (fun s => findV (eachL fr R) (ofC s)) (timeV now) l)) [refF q (leftU (hearA (fun s => findV (eachL fr R) (ofC s)) (timeV now) l).ahead)]) := by
  have H0 : St w S w [refF q l] := St.start (Sep.one h)
  obtain ⟨ga, gc, H⟩ := refF_parts H0
  obtain ⟨st, hst⟩ : ∃ st, st = fun s => findV (eachL fr R) (ofC s) := ⟨_, rfl⟩
  rw [← hst]
  obtain ⟨i0, hi, hz, hz1, hz2⟩ := info_parts un_info
  have H1 := ((H.alloc [.int .i64 0, .int .i64 0, .int .i64 0, .int .i64 0, .int .i64 0] 81).alloc [.int .i64 0, .int .i64 0, .int .i64 0, .int .i64 0, .int .i64 0] 81).row_nil (size := 3)
  simp only [World.size_alloc] at H1
  have H2 := H1.arrN [1, 2, 3, 0, 4] rfl
  have P := fun (u : Un) w' (ho : Only w w' S) => rat_any fr u.seq (st u.seq) R n hn (by omega) ra cap w' (hR w' ho) (by rw [hst]; exact (find_at fr u.seq R).1) (by rw [hst]; exact (find_at fr u.seq R).2)
  obtain ⟨N, hN⟩ : ∃ N, N = l.length := ⟨_, rfl⟩
  rw [← hN] at hl
  clear hst hR hn H0 H H1 h
  replace H2 := Lib.hid H2; replace P := Lib.hid P; replace hN := Lib.hid hN; replace hok := Lib.hid hok
  go_enter Try.func47, Try.ntmps47
  go_wp2_with fail
  go_loopg [10, 12] N (fun g lv i wr => ∃ (j : Nat) (la : Option Addr) (lc : Nat) (A : Acc), j ≤ N ∧ Hid (g = N - j) ∧ i = .int .i64 j ∧ lv = .slice la A.ahead.length lc ∧ Hid (A = hearA st (timeV now) (l.take j)) ∧
    Hid (St w S wr [cellA (w.heap.size + 1) [.int .i64 A.ack, .int .i64 0, .int .i64 A.mark, .int .i64 A.trip, .int .i64 0], cellA w.heap.size [.int .i64 0, .int .i64 0, .int .i64 0, .int .i64 0, .int .i64 0], cellA q [.slice ga l.length gc], rowA 3 (.slice la A.ahead.length lc) A.ahead.length (encUs A.ahead), rowA 3 (.slice ga l.length gc) l.length (encUs l)]))
  case atStart => exact ⟨0, none, 0, ⟨[], 0, 0, 0⟩, by omega, Lib.hid rfl, rfl, rfl, Lib.hid rfl, H2⟩
  case round =>
    clear H2
    obtain ⟨j, la, lc, A, hj, hg, rfl, rfl, hA, HL⟩ := hrel
    by_cases hlt : j < N
    · have hjl : j < l.length := by have := hN.out; omega
      obtain ⟨g, o, rfl, hgl, e0, e1, e2, _⟩ := un_row HL.out (k := 4) rfl hjl
      obtain ⟨zq, cq, fq⟩ := HL.out.box 2 rfl
      have hu : OkU l[j] := hok.out _ (List.getElem_mem hjl)
      have hinv := hear_inv (st := st) (t := timeV now) (l.take j) (fun x hx => hok.out x (List.mem_of_mem_take hx))
      have hlen : (l.take j).length = j := by rw [List.length_take]; omega
      rw [hlen, ← hA.out] at hinv
      have hnext : hearA st (timeV now) (l.take (j + 1)) = stepA st (timeV now) A l[j] := by rw [List.take_succ_eq_append_getElem hjl, hear_snoc, ← hA.out]
      have qj : decide ((j : Int) < (l.length : Int)) = true := decide_eq_true (by omega)
      have P1 := P.out l[j]
      generalize l[j] = u at *
      obtain ⟨ub, seq, at_, later⟩ := u
      simp only at e0 e1 e2 P1
      obtain ⟨v, hv⟩ : ∃ v, v = st seq := ⟨_, rfl⟩
      unfold stepA at hnext
      simp only [← hv] at hnext P1
      have H3 := HL.out.alloc [.int .i64 seq, .int .i64 at_, .int .i64 later] 86
      have P2 := P1 _ H3.only
      clear P1 HL hA hv hlen
      replace H3 := Lib.hid H3; replace P2 := Lib.hid P2; replace hnext := Lib.hid hnext; replace hinv := Lib.hid hinv; replace hu := Lib.hid hu
      go_wp2_with fail
      refine Calls.mono P2.out ?_
      rintro e w4 ⟨rfl, hb4⟩
      have H4 := H3.out.thru hb4
      clear P2 H3 e0 e1 e2 zq cq fq
      by_cases h3 : v = 3
      · have q3 : (v == 3) = true := by simp [h3]
        rw [if_pos h3] at hnext
        clear h3
        obtain ⟨zu, cu, fu⟩ := H4.box 0 rfl
        have hal : A.ahead.length ≤ 1000 := by have := hinv.out.all; have := hinv.out.ack; omega
        replace H4 := Lib.hid H4; replace hnext := Lib.hid hnext
        go_wp2_with (at_builtin; (refine wpList_appS rfl (.tmp 41) (.tmp 43) _ rfl 86 i0 _ 3 24 Try.underlying77 hi hz hz1 hz2 rfl (by omega) 4 _ A.ahead.length (encUs A.ahead) rfl H4.out rfl 1 1 [.int .i64 seq, .int .i64 at_, .int .i64 later] rfl rfl (by simp [Value.oneCell']) (by omega) (by omega) ?_; intro v5 w5 H5; replace H5 := Lib.hid H5))
        obtain ⟨l5, c5, rfl, _⟩ := St.slice (by omega) 0 H5.out rfl
        go_roundg (N - (j + 1))
        case measure => have := hg.out; omega
        case rel =>
          refine ⟨j + 1, l5, c5, { A with ahead := A.ahead ++ [⟨ub, seq, at_, later⟩] }, by omega, Lib.hid rfl, by go_num, ?_, Lib.hid hnext.out.out.symm, Lib.hid ?_⟩
          · simp
          · have H6 := (H5.out.arrN [2, 3, 4, 0, 5, 1] rfl).drops 5
            rw [show encUs A.ahead ++ [Value.int .i64 seq, .int .i64 at_, .int .i64 later] = encUs (A.ahead ++ [⟨ub, seq, at_, later⟩]) from encUs_app A.ahead ⟨ub, seq, at_, later⟩] at H6
            simp only [List.length_append, List.length_cons, List.length_nil]
            exact H6
      · have q3 : (v == 3) = false := by simp [h3]
        rw [if_neg h3] at hnext
        clear h3
        obtain ⟨z9, c9, f9⟩ := H4.box 1 rfl
        obtain ⟨zu, cu, fu⟩ := H4.box 0 rfl
        have m1 : ¬ wr.heap.size = w.heap.size + 1 := H4.ne_cells 0 1 rfl rfl (by decide)
        have m1' : ¬ w.heap.size + 1 = wr.heap.size := fun e => m1 e.symm
        have hcnt : A.ahead.length + A.ack.toNat ≤ 1000 ∧ 0 ≤ A.ack ∧ 0 ≤ A.mark ∧ A.mark ≤ 1000 ∧ A.ack ≤ 1000 := by have := hinv.out.all; have := hinv.out.ack; have := hinv.out.mark; have := hinv.out.less; omega
        have hat : 0 ≤ at_ ∧ at_ ≤ 1099511627776 := hu.out.2.2
        have hlat : ∀ x ∈ A.ahead, 0 ≤ x.later ∧ x.later ≤ 10000 := fun x hx => by have := hinv.out.un x hx; omega
        obtain ⟨L, ack, mark, trip⟩ := A
        simp only at hcnt hlat hnext c9 H4
        obtain ⟨hc1, hc2, hc3, hc4, hc5⟩ := hcnt
        obtain ⟨ha1, ha2⟩ := hat
        obtain ⟨tv, htv⟩ : ∃ tv, tv = max (min (max now 0) 1099511627776 - at_) 1 := ⟨_, rfl⟩
        have hw := IntWalk.wrap64_in (min (max now 0) 1099511627776 - at_) (by omega)
        have htv2 : max (timeV now - at_) 1 = tv := htv.symm
        rw [htv2] at hnext
        clear htv2 hinv hu
        by_cases h1 : v = 1
        · have q1 : (v == 1) = true := by simp [h1]
          rw [if_pos h1] at hnext
          clear h1
          have H6 := ((H4.set 1 rfl 0 (.int .i64 (ack + 1)) (by simp)).set 0 rfl 2 (.int .i64 (mark + 1)) (by simp)).set 0 rfl 3 (.int .i64 tv) (by simp)
          clear H4
          replace H6 := Lib.hid H6; replace hnext := Lib.hid hnext; replace hlat := Lib.hid hlat
          go_wp2_with fail
          simp only [hw, ← htv]
          replace htv := Lib.hid htv
          clear hw c9 cu z9 zu f9 fu m1 m1' ha1 ha2
          have H7 : St w S _ [cellA (w.heap.size + 1) [.int .i64 (ack + 1), .int .i64 0, .int .i64 (mark + 1), .int .i64 tv, .int .i64 0], cellA w.heap.size [.int .i64 0, .int .i64 0, .int .i64 0, .int .i64 0, .int .i64 0], cellA q [.slice (some ⟨g, o, none⟩) l.length gc], rowA 3 (.slice la L.length lc) L.length (encUs L), rowA 3 (.slice (some ⟨g, o, none⟩) l.length gc) l.length (encUs l)] := H6.out.drop 1 rfl
          clear H6
          replace H7 := Lib.hid H7
          obtain ⟨M, hM⟩ : ∃ M, M = L.length := ⟨_, rfl⟩
          have hM2 : M ≤ 1000 := by omega
          clear hc1
          replace hM := Lib.hid hM
          go_loopg [15] M (fun g2 k wr2 => ∃ m : Nat, m ≤ M ∧ Hid (g2 = M - m) ∧ k = .int .i64 m ∧ Hid (St w S wr2 [cellA (w.heap.size + 1) [.int .i64 (ack + 1), .int .i64 0, .int .i64 (mark + 1), .int .i64 tv, .int .i64 0], cellA w.heap.size [.int .i64 0, .int .i64 0, .int .i64 0, .int .i64 0, .int .i64 0], cellA q [.slice (some ⟨g, o, none⟩) l.length gc], rowA 3 (.slice la L.length lc) L.length (encUs ((L.take m).map incU ++ L.drop m)), rowA 3 (.slice (some ⟨g, o, none⟩) l.length gc) l.length (encUs l)]))
          case atStart => exact ⟨0, by omega, Lib.hid rfl, rfl, by simpa using H7⟩
          case round =>
            clear H7
            obtain ⟨m, hm, hg2, rfl, HL⟩ := hrel
            by_cases hlt2 : m < M
            · have hml : m < L.length := by have := hM.out; omega
              have hlen2 : ((L.take m).map incU ++ L.drop m).length = L.length := by simp; omega
              have ht : ((L.take m).map incU).length = m := by simp; omega
              have hx : ((L.take m).map incU ++ L.drop m)[m]'(by omega) = L[m] := by
                rw [List.getElem_append_right (by omega)]
                simp only [List.getElem_drop, ht, Nat.sub_self, Nat.add_zero]
              have hbd := hlat.out L[m] (List.getElem_mem hml)
              have HL1 := HL.out
              rw [← hlen2] at HL1
              obtain ⟨g3, o3, rfl, hgl3, _, _, e2, f2⟩ := un_row HL1 (k := 3) rfl (j := m) (by omega)
              rw [hx] at e2
              have HL2 := un_inc HL.out hlen2 (k := 3) rfl (j := m) (by omega)
              rw [hx] at HL2
              have hu : ((L.take m).map incU ++ L.drop m).take m ++ incU L[m] :: ((L.take m).map incU ++ L.drop m).drop (m + 1) = (L.take (m + 1)).map incU ++ L.drop (m + 1) := by
                rw [List.take_append_of_le_length (by omega), List.take_of_length_le (by omega), List.drop_append, ht, List.drop_of_length_le (by omega), List.drop_drop, List.take_succ_eq_append_getElem hml, List.map_append, List.append_assoc, show m + (m + 1 - m) = m + 1 by omega]
                rfl
              rw [hu] at HL2
              generalize (L[m]).later = xl at *
              obtain ⟨hb1, hb2⟩ := hbd
              clear HL HL1 hx hu
              have qm : decide ((m : Int) < (L.length : Int)) = true := decide_eq_true (by omega)
              replace HL2 := Lib.hid HL2; replace hlen2 := Lib.hid hlen2
              go_wp2_with fail
              go_roundg (M - (m + 1))
              case measure => have := hg2.out; omega
              case rel => exact ⟨m + 1, by omega, Lib.hid rfl, by go_num, Lib.hid (HL2.out.arrN [1, 2, 3, 0, 4] rfl)⟩
            · have qm : decide ((m : Int) < (L.length : Int)) = false := decide_eq_false (by have := hM.out; omega)
              have qm' : ¬ m < L.length := by have := hM.out; omega
              have hL : (L.take m).map incU ++ L.drop m = L.map incU := by
                have : m = L.length := by have := hM.out; omega
                subst this
                simp
              replace HL := HL.out
              rw [hL] at HL
              clear hL hlat
              replace HL := Lib.hid HL
              go_wp2_with fail
              go_roundg (N - (j + 1))
              case measure => have := hg.out; omega
              case rel =>
                refine ⟨j + 1, la, lc, ⟨L.map incU, ack + 1, (mark + 1), tv⟩, by omega, Lib.hid rfl, by go_num, by simp, Lib.hid hnext.out.out.symm, Lib.hid ?_⟩
                simp only [List.length_map]
                exact HL.out
        · have q1 : (v == 1) = false := by simp [h1]
          rw [if_neg h1, Int.add_zero] at hnext
          clear h1
          have H6 := (H4.set 1 rfl 0 (.int .i64 (ack + 1)) (by simp)).set 0 rfl 3 (.int .i64 tv) (by simp)
          clear H4
          replace H6 := Lib.hid H6; replace hnext := Lib.hid hnext; replace hlat := Lib.hid hlat
          go_wp2_with fail
          simp only [hw, ← htv]
          replace htv := Lib.hid htv
          clear hw c9 cu z9 zu f9 fu m1 m1' ha1 ha2
          have H7 : St w S _ [cellA (w.heap.size + 1) [.int .i64 (ack + 1), .int .i64 0, .int .i64 mark, .int .i64 tv, .int .i64 0], cellA w.heap.size [.int .i64 0, .int .i64 0, .int .i64 0, .int .i64 0, .int .i64 0], cellA q [.slice (some ⟨g, o, none⟩) l.length gc], rowA 3 (.slice la L.length lc) L.length (encUs L), rowA 3 (.slice (some ⟨g, o, none⟩) l.length gc) l.length (encUs l)] := H6.out.drop 1 rfl
          clear H6
          replace H7 := Lib.hid H7
          obtain ⟨M, hM⟩ : ∃ M, M = L.length := ⟨_, rfl⟩
          have hM2 : M ≤ 1000 := by omega
          clear hc1
          replace hM := Lib.hid hM
          go_loopg [15] M (fun g2 k wr2 => ∃ m : Nat, m ≤ M ∧ Hid (g2 = M - m) ∧ k = .int .i64 m ∧ Hid (St w S wr2 [cellA (w.heap.size + 1) [.int .i64 (ack + 1), .int .i64 0, .int .i64 mark, .int .i64 tv, .int .i64 0], cellA w.heap.size [.int .i64 0, .int .i64 0, .int .i64 0, .int .i64 0, .int .i64 0], cellA q [.slice (some ⟨g, o, none⟩) l.length gc], rowA 3 (.slice la L.length lc) L.length (encUs ((L.take m).map incU ++ L.drop m)), rowA 3 (.slice (some ⟨g, o, none⟩) l.length gc) l.length (encUs l)]))
          case atStart => exact ⟨0, by omega, Lib.hid rfl, rfl, by simpa using H7⟩
          case round =>
            clear H7
            obtain ⟨m, hm, hg2, rfl, HL⟩ := hrel
            by_cases hlt2 : m < M
            · have hml : m < L.length := by have := hM.out; omega
              have hlen2 : ((L.take m).map incU ++ L.drop m).length = L.length := by simp; omega
              have ht : ((L.take m).map incU).length = m := by simp; omega
              have hx : ((L.take m).map incU ++ L.drop m)[m]'(by omega) = L[m] := by
                rw [List.getElem_append_right (by omega)]
                simp only [List.getElem_drop, ht, Nat.sub_self, Nat.add_zero]
              have hbd := hlat.out L[m] (List.getElem_mem hml)
              have HL1 := HL.out
              rw [← hlen2] at HL1
              obtain ⟨g3, o3, rfl, hgl3, _, _, e2, f2⟩ := un_row HL1 (k := 3) rfl (j := m) (by omega)
              rw [hx] at e2
              have HL2 := un_inc HL.out hlen2 (k := 3) rfl (j := m) (by omega)
              rw [hx] at HL2
              have hu : ((L.take m).map incU ++ L.drop m).take m ++ incU L[m] :: ((L.take m).map incU ++ L.drop m).drop (m + 1) = (L.take (m + 1)).map incU ++ L.drop (m + 1) := by
                rw [List.take_append_of_le_length (by omega), List.take_of_length_le (by omega), List.drop_append, ht, List.drop_of_length_le (by omega), List.drop_drop, List.take_succ_eq_append_getElem hml, List.map_append, List.append_assoc, show m + (m + 1 - m) = m + 1 by omega]
                rfl
              rw [hu] at HL2
              generalize (L[m]).later = xl at *
              obtain ⟨hb1, hb2⟩ := hbd
              clear HL HL1 hx hu
              have qm : decide ((m : Int) < (L.length : Int)) = true := decide_eq_true (by omega)
              replace HL2 := Lib.hid HL2; replace hlen2 := Lib.hid hlen2
              go_wp2_with fail
              go_roundg (M - (m + 1))
              case measure => have := hg2.out; omega
              case rel => exact ⟨m + 1, by omega, Lib.hid rfl, by go_num, Lib.hid (HL2.out.arrN [1, 2, 3, 0, 4] rfl)⟩
            · have qm : decide ((m : Int) < (L.length : Int)) = false := decide_eq_false (by have := hM.out; omega)
              have qm' : ¬ m < L.length := by have := hM.out; omega
              have hL : (L.take m).map incU ++ L.drop m = L.map incU := by
                have : m = L.length := by have := hM.out; omega
                subst this
                simp
              replace HL := HL.out
              rw [hL] at HL
              clear hL hlat
              replace HL := Lib.hid HL
              go_wp2_with fail
              go_roundg (N - (j + 1))
              case measure => have := hg.out; omega
              case rel =>
                refine ⟨j + 1, la, lc, ⟨L.map incU, ack + 1, mark, tv⟩, by omega, Lib.hid rfl, by go_num, by simp, Lib.hid hnext.out.out.symm, Lib.hid ?_⟩
                simp only [List.length_map]
                exact HL.out
    · obtain rfl : j = N := by omega
      rw [show l.take j = l by rw [hN.out, List.take_length]] at hA
      have hinv := hear_inv (st := st) (t := timeV now) l hok.out
      rw [← hA.out] at hinv
      have hal : A.ahead.length ≤ 1000 := by have := hinv.all; have := hinv.ack; have := hN.out; omega
      have qj : decide ((j : Int) < (l.length : Int)) = false := decide_eq_false (by have := hN.out; omega)
      have qj' : ¬ j < l.length := by have := hN.out; omega
      obtain ⟨L, ack, mark, trip⟩ := A
      simp only at hal HL
      have hlat : ∀ x ∈ L, 0 ≤ x.later ∧ x.later ≤ 10000 := fun x hx => by have := hinv.un x hx; have := hN.out; omega
      obtain ⟨zq, cq, fq⟩ := HL.out.box 2 rfl
      have H9 := HL.out.row_nil (size := 3) |>.arrN [1, 2, 3, 4, 0, 5] rfl
      clear HL hinv P hok
      replace H9 := Lib.hid H9; replace hlat := Lib.hid hlat
      obtain ⟨M, hM⟩ : ∃ M, M = L.length := ⟨_, rfl⟩
      have hM2 : M ≤ 1000 := by omega
      replace hM := Lib.hid hM
      go_wp2_with fail
      go_loopg [11, 16] M (fun g2 rv k wr2 => ∃ (m : Nat) (re : Option Addr) (rc : Nat), m ≤ M ∧ Hid (g2 = M - m) ∧ rv = .slice re (leftU (L.take m)).length rc ∧ k = .int .i64 m ∧ Hid (St w S wr2 [cellA (w.heap.size + 1) [.int .i64 ack, .int .i64 (lostU (L.take m)).length, .int .i64 mark, .int .i64 trip, .int .i64 (newestU (lostU (L.take m)))], cellA w.heap.size [.int .i64 0, .int .i64 0, .int .i64 0, .int .i64 0, .int .i64 0], cellA q [.slice ga l.length gc], rowA 3 (.slice la L.length lc) L.length (encUs L), rowA 3 (.slice re (leftU (L.take m)).length rc) (leftU (L.take m)).length (encUs (leftU (L.take m))), rowA 3 (.slice ga l.length gc) l.length (encUs l)]))
      case atStart => exact ⟨0, none, 0, by omega, Lib.hid rfl, rfl, rfl, H9⟩
      case round =>
        clear H9
        obtain ⟨m, re, rc, hm, hg2, rfl, rfl, HL⟩ := hrel
        by_cases hlt2 : m < M
        · have hml : m < L.length := by have := hM.out; omega
          obtain ⟨g3, o3, rfl, hgl3, e0, e1, e2, _⟩ := un_row HL.out (k := 3) rfl hml
          obtain ⟨z9, c9, f9⟩ := HL.out.box 0 rfl
          have hlf := left_take hml
          have hls := lost_take hml
          have hbd := hlat.out L[m] (List.getElem_mem hml)
          have hl1 : (leftU (L.take m)).length ≤ 1000 := by have : (leftU (L.take m)).length ≤ (L.take m).length := List.length_filter_le ..; rw [List.length_take] at this; omega
          have hl2 : (lostU (L.take m)).length ≤ 1000 := by have : (lostU (L.take m)).length ≤ (L.take m).length := List.length_filter_le ..; rw [List.length_take] at this; omega
          have qm : decide ((m : Int) < (L.length : Int)) = true := decide_eq_true (by omega)
          generalize L[m] = x at *
          obtain ⟨xb, xs, xa, xl⟩ := x
          simp only at e0 e1 e2 hlf hls hbd
          obtain ⟨hb1, hb2⟩ := hbd
          generalize leftU (L.take m) = le at *
          generalize lostU (L.take m) = lo at *
          obtain ⟨nw, hnw⟩ : ∃ nw, nw = newestU lo := ⟨_, rfl⟩
          rw [← hnw] at c9 HL
          by_cases h3 : 3 ≤ xl
          · have q3 : decide (3 ≤ xl) = true := decide_eq_true h3
            rw [if_pos h3] at hlf hls
            rw [List.append_nil] at hlf
            have m3 : ¬ w.heap.size + 1 = g3 := HL.out.ne_row 0 3 rfl rfl (by decide)
            have m3' : ¬ g3 = w.heap.size + 1 := fun e => m3 e.symm
            have H10 := (HL.out.set 0 rfl 1 (.int .i64 (lo.length + 1)) (by simp)).set 0 rfl 4 (.int .i64 xs) (by simp)
            clear HL h3
            replace H10 := Lib.hid H10; replace hlf := Lib.hid hlf; replace hls := Lib.hid hls; replace hnw := Lib.hid hnw
            go_wp2_with fail
            go_roundg (M - (m + 1))
            case measure => have := hg2.out; omega
            case rel =>
              refine ⟨m + 1, re, rc, by omega, Lib.hid rfl, by rw [hlf.out], by go_num, Lib.hid ?_⟩
              rw [hlf.out, hls.out, newest_snoc, List.length_append]
              exact H10.out
          · have q3 : decide (3 ≤ xl) = false := decide_eq_false h3
            rw [if_neg h3] at hlf hls
            rw [List.append_nil] at hls
            clear h3
            replace HL := Lib.hid HL; replace hlf := Lib.hid hlf; replace hls := Lib.hid hls; replace hnw := Lib.hid hnw
            go_wp2_with (at_builtin; (refine wpList_appS rfl (.tmp 99) (.tmp 104) _ rfl 86 i0 _ 3 24 Try.underlying77 hi hz hz1 hz2 rfl (by omega) 4 _ le.length (encUs le) rfl HL.out.out rfl 1 1 [.int .i64 xs, .int .i64 xa, .int .i64 xl] rfl rfl (by simp [Value.oneCell']) (by omega) (by omega) ?_; intro v5 w5 H5; replace H5 := Lib.hid H5))
            obtain ⟨l5, c5, rfl, _⟩ := St.slice (by omega) 0 H5.out rfl
            go_roundg (M - (m + 1))
            case measure => have := hg2.out; omega
            case rel =>
              refine ⟨m + 1, l5, c5, by omega, Lib.hid rfl, by rw [hlf.out, List.length_append]; rfl, by go_num, Lib.hid ?_⟩
              rw [hlf.out, hls.out, List.length_append]
              have H6 := H5.out.arrN [1, 2, 3, 4, 0, 5] rfl
              rw [show encUs le ++ [Value.int .i64 xs, .int .i64 xa, .int .i64 xl] = encUs (le ++ [⟨xb, xs, xa, xl⟩]) from encUs_app le ⟨xb, xs, xa, xl⟩, hnw.out] at H6
              exact H6
        · obtain rfl : m = M := by omega
          have eL : L.take m = L := by rw [hM.out, List.take_length]
          rw [eL] at HL
          simp only [eL]
          have qm : decide ((m : Int) < (L.length : Int)) = false := decide_eq_false (by have := hM.out; omega)
          have qm' : ¬ m < L.length := by have := hM.out; omega
          obtain ⟨z9, c9, f9⟩ := HL.out.box 0 rfl
          obtain ⟨z8, c8, f8⟩ := HL.out.box 1 rfl
          obtain ⟨zq, cq, fq⟩ := HL.out.box 2 rfl
          have m1 : ¬ w.heap.size + 1 = q := HL.out.ne_cells 0 2 rfl rfl (by decide)
          have m1' : ¬ q = w.heap.size + 1 := fun e => m1 e.symm
          have m2 : ¬ w.heap.size = q := HL.out.ne_cells 1 2 rfl rfl (by decide)
          have m2' : ¬ q = w.heap.size := fun e => m2 e.symm
          have hv : newsV ⟨L, ack, mark, trip⟩ = .agg #[.int .i64 ack, .int .i64 (lostU L).length, .int .i64 mark, .int .i64 trip, .int .i64 (newestU (lostU L))] := rfl
          clear eL hlat
          obtain ⟨le, hle⟩ : ∃ le, le = leftU L := ⟨_, rfl⟩
          rw [← hle] at HL
          simp only [← hle]
          generalize (lostU L).length = lon at *
          generalize newestU (lostU L) = nw at *
          replace hv := Lib.hid hv; replace hle := Lib.hid hle
          go_wp2_with fail
          have HF := (((((HL.out.set 2 rfl 0 (.slice re le.length rc) (by simp)).set 2 rfl 0 (.int .i64 ack) (by simp)).set 0 rfl 1 (.int .i64 lon) (by simp)).set 0 rfl 2 (.int .i64 mark) (by simp)).set 0 rfl 3 (.int .i64 trip) (by simp)).set 0 rfl 4 (.int .i64 nw) (by simp)
          rw [← hA.out, hv.out, show leftU (Acc.ahead ⟨L, ack, mark, trip⟩) = le from hle.out.symm]
          refine bodyPost_ret (v := .agg #[.int .i64 ack, .int .i64 lon, .int .i64 mark, .int .i64 trip, .int .i64 nw]) (by simp [results, Try.results47, go_sem, c8, z8, c9, m1, m1', m2, m2']) rfl ⟨rfl, ?_⟩
          exact refF_shut ((HF.arrN [1, 4, 0, 2, 3, 5] rfl).drops 2)
end Go.Proofs.Ytljgmephajocaaa.Flight
