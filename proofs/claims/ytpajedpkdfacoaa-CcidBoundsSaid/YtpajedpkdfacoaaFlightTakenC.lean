
/- The walk of the package flight: Took. -/
import Derived.Test.YtpajedpkdfacoaaFlightHearC
namespace Go.Proofs.Ytpajedpkdfacoaa.Flight
set_option linter.unusedSimpArgs false
set_option linter.unusedVariables false
open Go Go.RowKit Go.Shelf Go.Proofs.Ytpajedpkdfacoaa Go.Proofs.Ytpajedpkdfacoaa.DockSPtr Go.Proofs.Ytpajedpkdfacoaa.Circ Go.Proofs.Ytpajedpkdfacoaa.Avec
attribute [local irreducible] Calls

theorem newest_take {l : List Un} {j : Nat} (hj : j < l.length) : newestU (l.take (j + 1)) = l[j].seq := by
  unfold newestU
  rw [List.take_succ_eq_append_getElem hj, List.getLast?_append]
  rfl
theorem lost_at {l : List Un} {j : Nat} (hj : j < (lostU l).length) : ∃ l1 l2, l = l1 ++ (lostU l)[j] :: l2 := List.append_of_mem (List.mem_filter.1 (List.getElem_mem hj)).1
theorem hear_take (l1 l2 : List Un) (u : Un) : (l1 ++ u :: l2).take l1.length = l1 ∧ (l1 ++ u :: l2).drop l1.length = u :: l2 ∧ (l1 ++ u :: l2).take (l1.length + 1) = l1 ++ [u] ∧ (l1 ++ u :: l2).drop (l1.length + 1) = l2 := by
  refine ⟨by simp, by simp, ?_, ?_⟩
  · rw [List.take_append, List.take_of_length_le (by omega), show l1.length + 1 - l1.length = 1 by omega]; rfl
  · rw [List.drop_append, List.drop_of_length_le (by omega), show l1.length + 1 - l1.length = 1 by omega]; rfl
set_option maxRecDepth 100000 in
set_option maxHeartbeats 1000000 in
theorem took_any (f : Nat) (l : List Un) (hl : l.length ≤ 1000) (hok : ∀ u ∈ l, OkU u) (fr now : Int) (R : List Run) (n cap : Nat) (hn : R.length = n) (hn2 : n ≤ 1000) (ra : Option Addr) (w : World) (S : Nat → Prop)
    (hR : ∀ w', Only w w' S → Rd w' ra (runs R)) (h : (flightA f l).holds w S) :
    Calls Try.prog 89 #[.pointer (some ⟨f, 0, none⟩), .int .i64 fr, .slice ra n cap, .int .i64 now] w
      (Fin w S (newsV (hearA (fun s => findV (eachL fr R) (ofC s)) (timeV now) l)) [flightA f (leftU (hearA (fun s => findV (eachL fr R) (ofC s)) (timeV now) l).ahead)]) := by
  have H0 : St w S w [flightA f l] := St.start (Sep.one h)
  obtain ⟨d, H⟩ := flight_parts H0
  obtain ⟨st, hst⟩ : ∃ st, st = fun s => findV (eachL fr R) (ofC s) := ⟨_, rfl⟩
  rw [← hst]
  have H1 := (((((H.alloc [.int .i64 fr] 3).alloc [.slice ra n cap] 50).alloc [.int .i64 now] 3).alloc [.int .i64 0, .int .i64 0, .int .i64 0, .int .i64 0, .int .i64 0] 135).alloc [.int .i64 0, .int .i64 0, .int .i64 0, .int .i64 0, .int .i64 0] 135).row_nil (size := 1)
  have H2 := H1.alloc [.slice none 0 0] 160
  simp only [World.size_alloc] at H2
  obtain ⟨k, hk⟩ : ∃ k : Hear, k = ⟨w.heap.size, w.heap.size + 1, w.heap.size + 5, w.heap.size + 4, w.heap.size + 2, fr, ra, n, cap, now⟩ := ⟨_, rfl⟩
  have H3 := acc_shut (k := k) (A := ⟨[], 0, 0, 0⟩) (rest := l) (v := .slice none 0 0) (by
    rw [hk]
    exact (uns_nil H2).arrN [7, 6, 1, 2, 3, 5, 0, 10, 4, 8, 9] rfl)
  have H4 : St w S _ [sepA [dockA d 64 (l.map ptr), accA k ⟨[], 0, 0, 0⟩ l], cellA (w.heap.size + 3) [.int .i64 0, .int .i64 0, .int .i64 0, .int .i64 0, .int .i64 0], cellA f [.pointer (some ⟨d, 0, none⟩)]] := St.join [_, _] _ (H3.arrN [3, 0, 1, 2] rfl)
  obtain ⟨zf, cf, ff⟩ := H4.box 2 rfl
  obtain ⟨S1, h1, hS1, hback⟩ := H4.at 0 rfl
  have P := sweep_with d 64 (l.map ptr) (by simp; omega) 124 #[.pointer (some ⟨w.heap.size, 0, none⟩), .pointer (some ⟨w.heap.size + 1, 0, none⟩), .pointer (some ⟨w.heap.size + 5, 0, none⟩), .pointer (some ⟨w.heap.size + 4, 0, none⟩), .pointer (some ⟨w.heap.size + 2, 0, none⟩)] (enters_of Try.func124 (by kernel_rfl) rfl)
    (qp l fun u => !decide (st u.seq = 3)) (fun pre => accA k (hearA st (timeV now) (l.take pre.length)) (l.drop pre.length)) _ S1
    (by
      intro pre x suf w' S' hx ho hJ
      obtain ⟨l1, u, l2, hl', rfl, rfl⟩ := split_ptr hx
      obtain ⟨t1, t2, t3, t4⟩ := hear_take l1 l2 u
      rw [← hl'] at t1 t2 t3 t4
      simp only [List.length_map, t1, t2] at hJ
      simp only [List.length_append, List.length_map, List.length_cons, List.length_nil, Nat.zero_add, t3, t4]
      rw [hear_snoc, hl', qp_at]
      have hin := hear_inv (st := st) (t := timeV now) l1 fun x hx => hok x (by rw [hl']; exact List.mem_append_left _ hx)
      have hlen : l1.length ≤ 1000 := by have := congrArg List.length hl'; simp at this; omega
      have hu : OkU u := hok u (by rw [hl']; simp)
      subst hk hst
      exact took1_any ⟨w.heap.size, w.heap.size + 1, w.heap.size + 5, w.heap.size + 4, w.heap.size + 2, fr, ra, n, cap, now⟩ _ u l2 R hn hn2 (by have := hin.all; have := hin.ack; omega) (fun x hx => by have := hin.un x hx; omega) (by have := hin.all; have := hin.ack; omega) (by have := hin.all; have := hin.mark; have := hin.less; omega) (by have := hu; unfold OkU at this; omega) w' S' (hR w' (H4.only.trans ho hS1)) hJ) h1
  obtain ⟨A, hA⟩ : ∃ A, A = hearA st (timeV now) l := ⟨_, rfl⟩
  have hinv := hear_inv (st := st) (t := timeV now) l hok
  have hp := hear_ptr (st := st) (t := timeV now) l
  have hr : rests (qp l fun u => !decide (st u.seq = 3)) [] (l.map ptr) = A.ahead.map ptr := by
    rw [hA, hp]
    refine (rests_q (fun u => !decide (st u.seq = 3)) l []).trans ?_
    simp
  rw [hr] at P
  simp only [List.length_map, List.take_length, List.drop_length] at P
  rw [← hA] at P hinv ⊢
  obtain ⟨q, hq⟩ : ∃ q : Un → Bool, q = fun u => decide (3 ≤ u.later) := ⟨_, rfl⟩
  have hr2 : rests (qp A.ahead q) [] (A.ahead.map ptr) = (leftU A.ahead).map ptr := by rw [hq]; exact rests_q _ A.ahead []
  have ho2 : outs (qp A.ahead q) [] (A.ahead.map ptr) = (lostU A.ahead).map ptr := by rw [hq]; exact outs_q _ A.ahead []
  have hah : A.ahead.length ≤ 1000 := by have := hinv.all; have := hinv.ack; omega
  have P2 := fun (w2 : World) (S2 : Nat → Prop) => sweep_any d 64 (A.ahead.map ptr) (by simp; omega) 126 #[] (enters_of Try.func126 (by kernel_rfl) rfl)
    (qp A.ahead q) (fun _ => unsA A.ahead)
    (by
      intro pre x suf w' S' hx hJ
      obtain ⟨l1, u, l2, hl', rfl, rfl⟩ := split_ptr hx
      rw [hl'] at hJ ⊢
      rw [qp_at, hq]
      exact took2_any l1 l2 u w' S' hJ) w2 S2
  rw [hr2, ho2] at P2
  simp only [List.length_map] at P2
  have e5 : k.b5 = w.heap.size := by rw [hk]
  have e9 : k.b9 = w.heap.size + 4 := by rw [hk]
  have hlost : (lostU A.ahead).length ≤ 1000 := by have : (lostU A.ahead).length ≤ A.ahead.length := List.length_filter_le ..; omega
  clear hr hp hinv hr2 ho2 hq h1 hS1 H0 H H1 H2 H3 h hok hR hst hn hk hA
  replace P := Lib.hid P; replace P2 := Lib.hid P2; replace hback := Lib.hid hback; replace H4 := Lib.hid H4
  go_enter Try.func89, Try.ntmps89
  go_wp2_with fail
  refine Calls.mono P.out ?_
  rintro e w1 ⟨v1, rfl, h2⟩
  have H5 := hback.out w1 _ h2
  obtain ⟨va, vc, rfl, _⟩ := St.slice (by omega) 0 H5 rfl
  clear P hback H4 h2
  obtain ⟨a1, c1, HP⟩ := acc_parts ((H5.drop 0 rfl).arrN [1, 0, 2, 3] rfl)
  rw [e9] at HP
  have H6 : St w S w1 [sepA [dockA d 64 (A.ahead.map ptr), unsA A.ahead], cellA (w.heap.size + 1 + 1 + 1 + 1) [.int .i64 A.ack, .int .i64 0, .int .i64 A.mark, .int .i64 A.trip, .int .i64 0], cellA (w.heap.size + 1 + 1 + 1) [.int .i64 0, .int .i64 0, .int .i64 0, .int .i64 0, .int .i64 0], cellA f [.pointer (some ⟨d, 0, none⟩)]] := St.join [_, _] _ ((HP.arrN [8, 6, 4, 9, 10, 0, 1, 2, 3, 5, 7] rfl).drops 5)
  clear H5 HP zf cf ff
  obtain ⟨S2, h2, _, hback⟩ := H6.at 0 rfl
  have P := P2.out w1 S2 h2
  obtain ⟨zf, cf, ff⟩ := H6.box 3 rfl
  clear P2 h2 e5 e9 hah
  replace P := Lib.hid P; replace hback := Lib.hid hback; replace H6 := Lib.hid H6
  go_wp2_with fail
  refine Calls.mono P.out ?_
  rintro e w2 ⟨v2, rfl, h2⟩
  have H7 := hback.out w2 _ h2
  obtain ⟨vb, cb, rfl, _⟩ := St.slice (by omega) 0 H7 rfl
  have H8 : St w S w2 [rowA 1 (.slice vb (lostU A.ahead).length cb) (lostU A.ahead).length (encs ((lostU A.ahead).map ptr)), dockA d 64 ((leftU A.ahead).map ptr), unsA A.ahead, cellA (w.heap.size + 1 + 1 + 1 + 1) [.int .i64 A.ack, .int .i64 0, .int .i64 A.mark, .int .i64 A.trip, .int .i64 0], cellA (w.heap.size + 1 + 1 + 1) [.int .i64 0, .int .i64 0, .int .i64 0, .int .i64 0, .int .i64 0], cellA f [.pointer (some ⟨d, 0, none⟩)]] := H7
  clear P hback H6 h2 H7 zf cf ff
  obtain ⟨lo, hlo⟩ : ∃ lo, lo = lostU A.ahead := ⟨_, rfl⟩
  obtain ⟨N, hN⟩ : ∃ N, N = lo.length := ⟨_, rfl⟩
  simp only [← hlo] at H8 hlost ⊢
  have hlt0 : ∀ (j : Nat) (hj : j < lo.length), ∃ l1 l2, A.ahead = l1 ++ lo[j] :: l2 := by rw [hlo]; exact fun j hj => lost_at hj
  rw [← hN] at hlost
  replace H8 := Lib.hid H8; replace hlo := Lib.hid hlo; replace hN := Lib.hid hN; replace hlt0 := Lib.hid hlt0
  go_wp2_with fail
  go_loopg [12, 28] N (fun g _ i wr => ∃ j : Nat, j ≤ N ∧ Hid (g = N - j) ∧ i = .int .i64 j ∧ Hid (St w S wr [rowA 1 (.slice vb lo.length cb) lo.length (encs (lo.map ptr)), dockA d 64 ((leftU A.ahead).map ptr), unsA A.ahead, cellA (w.heap.size + 1 + 1 + 1 + 1) [.int .i64 A.ack, .int .i64 j, .int .i64 A.mark, .int .i64 A.trip, .int .i64 (newestU (lo.take j))], cellA (w.heap.size + 1 + 1 + 1) [.int .i64 0, .int .i64 0, .int .i64 0, .int .i64 0, .int .i64 0], cellA f [.pointer (some ⟨d, 0, none⟩)]]))
  case atStart => exact ⟨0, by omega, Lib.hid (by omega), rfl, H8⟩
  case round =>
    clear H8
    obtain ⟨j, hj, hg, rfl, HL⟩ := hrel
    by_cases hlt : j < N
    · have hjl : j < lo.length := by have := hN.out; omega
      obtain ⟨bg, off, rfl, hbg, e0⟩ := ptr_at (St.rd (by omega) 0 HL.out rfl) hjl
      obtain ⟨l1, l2, hx⟩ := hlt0.out j hjl
      have hnew := newest_take hjl
      generalize lo[j] = x at *
      obtain ⟨xb, xs, xa, xl⟩ := x
      have HL1 := HL.out.arrN [2, 0, 1, 3, 4, 5] rfl
      rw [hx] at HL1
      obtain ⟨zx, cx, fx⟩ := (uns_split HL1).box 0 rfl
      obtain ⟨z9, c9, f9⟩ := HL.out.box 3 rfl
      have m1 : ¬ xb = w.heap.size + 1 + 1 + 1 + 1 := (uns_split HL1).ne_cells 0 5 rfl rfl (by decide)
      have m1' : ¬ w.heap.size + 1 + 1 + 1 + 1 = xb := fun e => m1 e.symm
      clear HL1
      simp only at e0 cx fx zx hnew
      have HL3 := (HL.out.set 3 rfl 1 (.int .i64 (j + 1)) (by simp)).set 0 rfl 4 (.int .i64 xs) (by simp)
      clear HL
      have qj : decide ((j : Int) < (lo.length : Int)) = true := decide_eq_true (by omega)
      replace hx := Lib.hid hx
      replace hnew := Lib.hid hnew
      replace HL3 := Lib.hid HL3
      go_wp2_with fail
      go_roundg (N - (j + 1))
      case measure => have := hg.out; omega
      case rel =>
        refine ⟨j + 1, by omega, Lib.hid rfl, by go_num, ?_⟩
        rw [hnew.out]
        exact HL3.out.arrN [1, 2, 3, 0, 4, 5] rfl
    · have qj : decide ((j : Int) < (lo.length : Int)) = false := decide_eq_false (by have := hN.out; omega)
      have qj' : ¬ j < lo.length := by have := hN.out; omega
      obtain rfl : j = lo.length := by have := hN.out; omega
      rw [List.take_length] at HL
      obtain ⟨z9, c9, f9⟩ := HL.out.box 3 rfl
      obtain ⟨z8, c8, f8⟩ := HL.out.box 4 rfl
      have m1 : ¬ w.heap.size + 1 + 1 + 1 + 1 = w.heap.size + 1 + 1 + 1 := HL.out.ne_cells 3 4 rfl rfl (by decide)
      have m1' : ¬ w.heap.size + 1 + 1 + 1 = w.heap.size + 1 + 1 + 1 + 1 := fun e => m1 e.symm
      go_wp2_with fail
      have HF := ((((HL.out.set 4 rfl 0 (.int .i64 A.ack) (by simp)).set 0 rfl 1 (.int .i64 lo.length) (by simp)).set 0 rfl 2 (.int .i64 A.mark) (by simp)).set 0 rfl 3 (.int .i64 A.trip) (by simp)).set 0 rfl 4 (.int .i64 (newestU lo)) (by simp)
      have hv : newsV A = .agg #[.int .i64 A.ack, .int .i64 lo.length, .int .i64 A.mark, .int .i64 A.trip, .int .i64 (newestU lo)] := by unfold newsV newsL; rw [← hlo.out]
      rw [hv]
      refine bodyPost_ret (v := .agg #[.int .i64 A.ack, .int .i64 lo.length, .int .i64 A.mark, .int .i64 A.trip, .int .i64 (newestU lo)]) (by simp [results, Try.results89, go_sem, c8, z8, c9]) rfl ⟨rfl, ?_⟩
      have HG := uns_filter (fun u => !decide (3 ≤ u.later)) (HF.arrN [3, 0, 1, 2, 4, 5] rfl)
      exact flight_shut ((HG.arrN [5, 3, 0, 1, 2, 4] rfl).drops 3)
end Go.Proofs.Ytpajedpkdfacoaa.Flight
