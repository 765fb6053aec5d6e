
/- The walk of the package flight: the questions of Took. -/
import Derived.Test.YtpajedpkdfacoaaFlightPutC
namespace Go.Proofs.Ytpajedpkdfacoaa.Flight
set_option linter.unusedSimpArgs false
set_option linter.unusedVariables false
open Go Go.RowKit Go.Shelf Go.Proofs.Ytpajedpkdfacoaa Go.Proofs.Ytpajedpkdfacoaa.DockSPtr Go.Proofs.Ytpajedpkdfacoaa.Circ Go.Proofs.Ytpajedpkdfacoaa.Avec
attribute [local irreducible] Calls

def incU (u : Un) : Un := { u with later := u.later + 1 }
theorem uns_split {W w : World} {S : Nat → Prop} {l1 l2 : List Un} {x : Un} {r : List Asn} (h : St W S w (unsA (l1 ++ x :: l2) :: r)) : St W S w (unA x :: unsA l1 :: unsA l2 :: r) := by
  have h2 : St W S w ((l1 ++ x :: l2).map unA ++ r) := St.unsep 0 h rfl
  rw [List.map_append, List.map_cons, List.append_assoc, List.cons_append] at h2
  have h3 : St W S w (unsA l1 :: unA x :: (l2.map unA ++ r)) := St.join _ _ h2
  have h4 : St W S w (l2.map unA ++ (unA x :: unsA l1 :: r)) := by
    refine h3.perm ?_
    refine (List.Perm.swap _ _ _).trans ?_
    rw [show unsA l1 :: (l2.map unA ++ r) = [unsA l1] ++ (l2.map unA ++ r) from rfl, ← List.append_assoc]
    refine ((List.perm_append_comm (l₁ := [unsA l1]) (l₂ := l2.map unA)).append_right r |>.cons (unA x)).trans ?_
    rw [List.append_assoc]
    exact (List.perm_middle (l₁ := l2.map unA)).symm
  exact (St.join _ _ h4).arrN [1, 2, 0] rfl
theorem uns_unite {W w : World} {S : Nat → Prop} {l1 l2 : List Un} {x : Un} {r : List Asn} (h : St W S w (unA x :: unsA l1 :: unsA l2 :: r)) : St W S w (unsA (l1 ++ x :: l2) :: r) := by
  have h1 : St W S w (unsA l2 :: unsA l1 :: unA x :: r) := h.arrN [2, 1, 0] rfl
  have h2 : St W S w (l2.map unA ++ (unsA l1 :: unA x :: r)) := St.unsep 0 h1 rfl
  have h3 : St W S w (unsA l1 :: (unA x :: (l2.map unA ++ r))) := by
    refine h2.perm ?_
    refine List.perm_middle.trans (.cons _ ?_)
    exact List.perm_middle
  have h4 : St W S w (l1.map unA ++ (unA x :: (l2.map unA ++ r))) := St.unsep 0 h3 rfl
  refine St.join _ _ ?_
  rw [List.map_append, List.map_cons, List.append_assoc, List.cons_append]
  exact h4
theorem uns_nils {W w : World} {S : Nat → Prop} {l : List Un} {r : List Asn} (h : St W S w (unsA l :: unsA [] :: r)) : St W S w (unsA l :: r) := h.drop 1 rfl
theorem ptr_at {w : World} {a : Option Addr} {l : List Un} (h : Rd w a (encs (l.map ptr))) {j : Nat} (hj : j < l.length) :
    ∃ b off, a = some ⟨b, off, none⟩ ∧ b < w.heap.size ∧ w.cell? ⟨b, off + j, none⟩ = some (.pointer (some ⟨(l[j]).b, 0, none⟩)) := by
  obtain ⟨b, off, rfl, hb, hc⟩ := Rd.rows enc_len (by omega) h rfl (by simp; omega)
  refine ⟨b, off, rfl, hb, ?_⟩
  have := hc j (by simp; omega) 0 _ rfl
  simpa [enc, ptr] using this

/-- What a hearing has come to. -/
structure Acc where
  ahead : List Un
  ack : Int
  mark : Int
  trip : Int
def stepA (st : Int → Int) (t : Int) (A : Acc) (u : Un) : Acc :=
  if st u.seq = 3 then { A with ahead := A.ahead ++ [u] } else ⟨A.ahead.map incU, A.ack + 1, A.mark + (if st u.seq = 1 then 1 else 0), max (t - u.at_) 1⟩
structure Hear where
  b5 : Nat
  b6 : Nat
  b10 : Nat
  b9 : Nat
  b7 : Nat
  fr : Int
  ra : Option Addr
  n : Nat
  cap : Nat
  now : Int
def accA (k : Hear) (A : Acc) (rest : List Un) : Asn := exA fun v => sepA [cellA k.b5 [.int .i64 k.fr], cellA k.b6 [.slice k.ra k.n k.cap], cellA k.b10 [v], rowA 1 v A.ahead.length (encs (A.ahead.map ptr)), cellA k.b9 [.int .i64 A.ack, .int .i64 0, .int .i64 A.mark, .int .i64 A.trip, .int .i64 0], cellA k.b7 [.int .i64 k.now], unsA A.ahead, unsA rest]
theorem acc_parts {W w : World} {S : Nat → Prop} {k : Hear} {A : Acc} {rest : List Un} {r : List Asn} (h : St W S w (accA k A rest :: r)) :
    ∃ a c, St W S w (cellA k.b5 [.int .i64 k.fr] :: cellA k.b6 [.slice k.ra k.n k.cap] :: cellA k.b10 [.slice a A.ahead.length c] :: rowA 1 (.slice a A.ahead.length c) A.ahead.length (encs (A.ahead.map ptr)) :: cellA k.b9 [.int .i64 A.ack, .int .i64 0, .int .i64 A.mark, .int .i64 A.trip, .int .i64 0] :: cellA k.b7 [.int .i64 k.now] :: unsA A.ahead :: unsA rest :: r) := by
  obtain ⟨v, h1⟩ := St.unex 0 h rfl
  have h2 := St.unsep 0 h1 rfl
  obtain ⟨a, c, rfl, _⟩ := St.slice (by omega) 3 h2 rfl
  exact ⟨a, c, h2⟩
theorem acc_shut {W w : World} {S : Nat → Prop} {k : Hear} {A : Acc} {rest : List Un} {v : Value} {r : List Asn}
    (h : St W S w (cellA k.b5 [.int .i64 k.fr] :: cellA k.b6 [.slice k.ra k.n k.cap] :: cellA k.b10 [v] :: rowA 1 v A.ahead.length (encs (A.ahead.map ptr)) :: cellA k.b9 [.int .i64 A.ack, .int .i64 0, .int .i64 A.mark, .int .i64 A.trip, .int .i64 0] :: cellA k.b7 [.int .i64 k.now] :: unsA A.ahead :: unsA rest :: r)) : St W S w (accA k A rest :: r) :=
  St.ex (fun v => sepA [cellA k.b5 [.int .i64 k.fr], cellA k.b6 [.slice k.ra k.n k.cap], cellA k.b10 [v], rowA 1 v A.ahead.length (encs (A.ahead.map ptr)), cellA k.b9 [.int .i64 A.ack, .int .i64 0, .int .i64 A.mark, .int .i64 A.trip, .int .i64 0], cellA k.b7 [.int .i64 k.now], unsA A.ahead, unsA rest]) v (St.join [_, _, _, _, _, _, _, _] r h)

set_option maxRecDepth 100000 in
set_option maxHeartbeats 1000000 in
theorem took1_any (k : Hear) (A : Acc) (u : Un) (rest : List Un) (R : List Avec.Run) (hl : R.length = k.n) (hn : k.n ≤ 1000) (hah : A.ahead.length ≤ 1000) (hlat : ∀ x ∈ A.ahead, 0 ≤ x.later ∧ x.later ≤ 10000)
    (hack : 0 ≤ A.ack ∧ A.ack ≤ 1000) (hmark : 0 ≤ A.mark ∧ A.mark ≤ 1000) (hat : 0 ≤ u.at_ ∧ u.at_ ≤ 1099511627776) (w : World) (S : Nat → Prop) (hR : Rd w k.ra (runs R)) (h : (accA k A (u :: rest)).holds w S) :
    Calls Try.prog 124 #[.pointer (some ⟨u.b, 0, none⟩), .pointer (some ⟨k.b5, 0, none⟩), .pointer (some ⟨k.b6, 0, none⟩), .pointer (some ⟨k.b10, 0, none⟩), .pointer (some ⟨k.b9, 0, none⟩), .pointer (some ⟨k.b7, 0, none⟩)] w
      (Fin w S (.bool (!decide (findV (eachL k.fr R) (ofC u.seq) = 3))) [accA k (stepA (fun s => findV (eachL k.fr R) (ofC s)) (timeV k.now) A u) rest]) := by
  obtain ⟨b5, b6, b10, b9, b7, fr, ra, n, cap, now⟩ := k
  obtain ⟨L, ack, mark, trip⟩ := A
  obtain ⟨ub, seq, at_, later⟩ := u
  simp only at hl hn hah hlat hack hmark hat hR ⊢
  obtain ⟨i0, hi, hz, hz1, hz2⟩ := info_parts DelPtr.el_info
  have H0 : St w S w [_] := St.start (Sep.one h)
  obtain ⟨a, c, H1⟩ := acc_parts H0
  simp only at H1
  have H2 : St w S w (cellA b5 [.int .i64 fr] :: cellA b6 [.slice ra n cap] :: cellA b10 [.slice a L.length c] :: rowA 1 (.slice a L.length c) L.length (encs (L.map ptr)) :: cellA b9 [.int .i64 ack, .int .i64 0, .int .i64 mark, .int .i64 trip, .int .i64 0] :: cellA b7 [.int .i64 now] :: unsA L :: cellA ub [.int .i64 seq, .int .i64 at_, .int .i64 later] :: unsA rest :: []) :=
    ((uns_split (l1 := []) (H1.arr [7, 0, 1, 2, 3, 4, 5, 6] rfl)).drop 1 rfl).arr [2, 3, 4, 5, 6, 7, 8, 0, 1] rfl
  obtain ⟨v, hv⟩ : ∃ v, v = findV (eachL fr R) (ofC seq) := ⟨_, rfl⟩
  unfold stepA
  simp only [← hv]
  have P := fun w => at_any fr seq R n cap hl (by omega) ra w
  simp only [← hv] at P
  obtain ⟨z5, c5, f5⟩ := H2.box 0 rfl
  obtain ⟨z6, c6, f6⟩ := H2.box 1 rfl
  obtain ⟨zu, cu, fu⟩ := H2.box 7 rfl
  clear H0 h H1
  by_cases h3 : v = 3
  · have q3 : (v == 3) = true := by simp [h3]
    have q3' : decide (v = 3) = true := by simp [h3]
    simp only [if_pos h3, q3', Bool.not_true]
    replace H2 := Lib.hid H2; replace hv := Lib.hid hv; replace P := Lib.hid P; replace hR := Lib.hid hR; replace hlat := Lib.hid hlat
    go_enter Try.func124, Try.ntmps124
    go_wp2_with fail
    have hR' := fun s : Near w.heap.size w => hR.out.below s.near
    refine wp_region_near (by kernel_rfl) (by kernel_rfl) ?_
    intro hs
    repeat (go_big_quiet_step ((first | (go_at_call 125; exact Calls.near (by simp) (P.out _ (hR' _))))))
    refine wpQuiet_nil ?_
    clear hs
    intro wr hbw
    have H3 := H2.out.thru hbw
    obtain ⟨z10, c10, f10⟩ := H3.box 2 rfl
    clear P hR hR' c5 c6 f5 f6 z5 z6 hlat H2
    replace H3 := Lib.hid H3
    go_wp2_with (at_builtin; (refine wpList_appS rfl (.tmp 20) (.tmp 22) _ rfl 146 i0 _ 1 8 Try.underlying160 hi hz hz1 hz2 rfl (by omega) 3 _ L.length (encs (L.map ptr)) rfl H3.out rfl 1 1 [.pointer (some ⟨ub, 0, none⟩)] rfl rfl (by simp [Value.oneCell']) (by omega) (by omega) ?_; intro v5 w5 H5; obtain ⟨g5, o5, k5, rfl⟩ := row_some (H5.row 0 rfl) (by omega); obtain ⟨zb, kb, fb⟩ := H5.box 3 rfl; replace H5 := Lib.hid H5))
    go_ret
    refine ⟨rfl, ?_⟩
    have H6 := H5.out.set 3 rfl 0 (.slice (some ⟨g5, o5, none⟩) (L.length + 1) k5) (by simp)
    refine acc_shut (v := .slice (some ⟨g5, o5, none⟩) (L.length + 1) k5) ?_
    simp only [List.length_append, List.length_cons, List.length_nil, List.map_append, List.map_cons, List.map_nil]
    rw [← encs_app]
    have H7 : St w S _ (unA ⟨ub, seq, at_, later⟩ :: unsA L :: _) := H6.arrN [7, 6, 2, 3, 0, 1, 4, 5, 8] rfl
    exact (uns_add H7).arrN [1, 2, 3, 4, 5, 6, 0, 7] rfl
  · have q3 : (v == 3) = false := by simp [h3]
    have q3' : decide (v = 3) = false := by simp [h3]
    simp only [if_neg h3, q3', Bool.not_false]
    by_cases h1 : v = 1
    · have q1 : (v == 1) = true := by simp [h1]
      have q1' : decide (v = 1) = true := by simp [h1]
      simp only [if_pos h1]
      clear h1
      replace H2 := Lib.hid H2; replace hv := Lib.hid hv; replace P := Lib.hid P; replace hR := Lib.hid hR; replace hlat := Lib.hid hlat
      go_enter Try.func124, Try.ntmps124
      go_wp2_with fail
      have hR' := fun s : Near w.heap.size w => hR.out.below s.near
      refine wp_region_near (by kernel_rfl) (by kernel_rfl) ?_
      intro hs
      repeat (go_big_quiet_step ((first | (go_at_call 125; exact Calls.near (by simp) (P.out _ (hR' _))))))
      refine wpQuiet_nil ?_
      clear hs
      intro wr hbw
      clear P hR hR' c5 c6 f5 f6 z5 z6
      have H3 := ((H2.out.thru hbw).set 4 rfl 0 (.int .i64 (ack + 1)) (by simp)).set 0 rfl 2 (.int .i64 (mark + 1)) (by simp)
      obtain ⟨z9, c9, f9⟩ := (H2.out.thru hbw).box 4 rfl
      obtain ⟨z7, c7, f7⟩ := (H2.out.thru hbw).box 5 rfl
      obtain ⟨zu, cu, fu⟩ := (H2.out.thru hbw).box 7 rfl
      obtain ⟨z10, c10, f10⟩ := (H2.out.thru hbw).box 2 rfl
      have m1 := H2.out.ne_cells 4 5 rfl rfl (by decide)
      have m2 := H2.out.ne_cells 4 7 rfl rfl (by decide)
      have m3 := H2.out.ne_cells 2 4 rfl rfl (by decide)
      have m1' : ¬ b7 = b9 := fun e => m1 e.symm
      have m2' : ¬ ub = b9 := fun e => m2 e.symm
      have m3' : ¬ b9 = b10 := fun e => m3 e.symm
      clear H2
      replace H3 := Lib.hid H3
      go_wp2_with fail
      refine wp_region_near_tail 9 (by kernel_rfl) (by kernel_rfl) ?_
      intro hs
      simp only [List.take_succ_cons, List.take_zero, List.drop_succ_cons, List.drop_zero]
      repeat (go_big_quiet_step ((first | (go_at_call 120; exact Calls.near (by simp) (time_any _ _)))))
      refine wpQuiet_nil ?_
      clear hs
      intro wt hbt
      have H4 : St w S wt (cellA b9 [.int .i64 (ack + 1), .int .i64 0, .int .i64 (mark + 1), .int .i64 trip, .int .i64 0] :: cellA b5 [.int .i64 fr] :: cellA b6 [.slice ra n cap] :: cellA b10 [.slice a L.length c] :: rowA 1 (.slice a L.length c) L.length (encs (L.map ptr)) :: cellA b7 [.int .i64 now] :: unsA L :: cellA ub [.int .i64 seq, .int .i64 at_, .int .i64 later] :: unsA rest :: []) := H3.out.thru hbt
      clear H3 z7 c7 f7 zu cu fu z10 c10 f10 z9 c9 f9
      obtain ⟨z9, c9, f9⟩ := H4.box 0 rfl
      obtain ⟨z10, c10, f10⟩ := H4.box 3 rfl
      have ht : 0 ≤ timeV now ∧ timeV now ≤ 1099511627776 := by unfold timeV; omega
      obtain ⟨ht1, ht2⟩ := ht
      obtain ⟨ha1, ha2⟩ := hat
      replace H4 := Lib.hid H4
      have hw := IntWalk.wrap64_in (timeV now - at_) (by omega)
      obtain ⟨tv, htv⟩ : ∃ tv, tv = max (timeV now - at_) 1 := ⟨_, rfl⟩
      go_wp2_with fail
      simp only [hw, ← htv]
      have H5 : St w S _ (cellA b9 [.int .i64 (ack + 1), .int .i64 0, .int .i64 (mark + 1), .int .i64 tv, .int .i64 0] :: cellA b5 [.int .i64 fr] :: cellA b6 [.slice ra n cap] :: cellA b10 [.slice a L.length c] :: rowA 1 (.slice a L.length c) L.length (encs (L.map ptr)) :: cellA b7 [.int .i64 now] :: unsA L :: cellA ub [.int .i64 seq, .int .i64 at_, .int .i64 later] :: unsA rest :: []) := H4.out.set 0 rfl 3 (.int .i64 tv) (by simp)
      clear H4 z9 c9 f9 z10 c10 f10 hw m1 m2 m3 m1' m2' m3' hv
      replace H5 := Lib.hid H5
      replace htv := Lib.hid htv
      obtain ⟨N, hN⟩ : ∃ N, N = L.length := ⟨_, rfl⟩
      rw [← hN] at hah
      replace hN := Lib.hid hN
      go_loopg [10, 45] N (fun g _ i wr2 => ∃ j : Nat, j ≤ N ∧ g = N - j ∧ i = .int .i64 j ∧ Hid (St w S wr2 (cellA b9 [.int .i64 (ack + 1), .int .i64 0, .int .i64 (mark + 1), .int .i64 tv, .int .i64 0] :: cellA b5 [.int .i64 fr] :: cellA b6 [.slice ra n cap] :: cellA b10 [.slice a L.length c] :: rowA 1 (.slice a L.length c) L.length (encs (L.map ptr)) :: cellA b7 [.int .i64 now] :: unsA ((L.take j).map incU ++ L.drop j) :: cellA ub [.int .i64 seq, .int .i64 at_, .int .i64 later] :: unsA rest :: [])))
      case atStart => exact ⟨0, by omega, by omega, rfl, H5.out⟩
      case round =>
        clear H5
        obtain ⟨j, hj, hg, rfl, HL⟩ := hrel
        replace hg := Lib.hid hg
        by_cases hlt : j < N
        · have hjl : j < L.length := by have := hN.out; omega
          have hd : L.drop j = L[j] :: L.drop (j + 1) := List.drop_eq_getElem_cons hjl
          have hu : (L.take j).map incU ++ incU L[j] :: L.drop (j + 1) = (L.take (j + 1)).map incU ++ L.drop (j + 1) := by
            rw [List.take_succ_eq_append_getElem hjl, List.map_append, List.append_assoc]; rfl
          have HL1 := HL.out
          rw [hd] at HL1
          have HL2 := uns_split (HL1.arr [6, 0, 1, 2, 3, 4, 5, 7, 8] rfl)
          obtain ⟨bg, off, rfl, hbg, e0⟩ := ptr_at (St.rd (by omega) 7 HL2 rfl) hjl
          have hx := hlat.out L[j] (List.getElem_mem hjl)
          generalize L[j] = x at *
          obtain ⟨xb, xs, xa, xl⟩ := x
          simp only at hx e0
          obtain ⟨zx, cx, fx⟩ := HL2.box 0 rfl
          simp only at zx cx fx
          have HL3 := HL2.set 0 rfl 2 (.int .i64 (xl + 1)) (by simp)
          clear HL HL1 HL2
          replace HL3 := Lib.hid HL3
          replace hu := Lib.hid hu
          replace hd := Lib.hid hd
          have qj : decide ((j : Int) < (L.length : Int)) = true := decide_eq_true (by omega)
          obtain ⟨hx1, hx2⟩ := hx
          go_wp2_with fail
          go_roundg (N - (j + 1))
          case measure => have := hg.out; omega
          case rel =>
            refine ⟨j + 1, by omega, rfl, by go_num, ?_⟩
            rw [← hu.out]
            exact (uns_unite (x := incU ⟨xb, xs, xa, xl⟩) HL3.out).arrN [1, 2, 3, 4, 5, 6, 0, 7, 8] rfl
        · have qj : decide ((j : Int) < (L.length : Int)) = false := decide_eq_false (by have := hN.out; omega)
          have qj' : ¬ j < L.length := by have := hN.out; omega
          have hL : (L.take j).map incU ++ L.drop j = L.map incU := by
            have : j = L.length := by have := hN.out; omega
            subst this
            simp
          replace HL := HL.out
          rw [hL] at HL
          clear hL hlat
          replace HL := Lib.hid HL
          go_wp2_with fail
          go_ret
          refine ⟨rfl, acc_shut (v := .slice a L.length c) ?_⟩
          rw [← htv.out]
          simp only [List.length_map, List.map_map]
          exact (HL.out.drop 7 rfl).arrN [1, 2, 3, 4, 0, 5, 6, 7] rfl
    · have q1 : (v == 1) = false := by simp [h1]
      have q1' : decide (v = 1) = false := by simp [h1]
      simp only [if_neg h1, Int.add_zero]
      replace H2 := Lib.hid H2; replace hv := Lib.hid hv; replace P := Lib.hid P; replace hR := Lib.hid hR; replace hlat := Lib.hid hlat
      go_enter Try.func124, Try.ntmps124
      go_wp2_with fail
      have hR' := fun s : Near w.heap.size w => hR.out.below s.near
      refine wp_region_near (by kernel_rfl) (by kernel_rfl) ?_
      intro hs
      repeat (go_big_quiet_step ((first | (go_at_call 125; exact Calls.near (by simp) (P.out _ (hR' _))))))
      refine wpQuiet_nil ?_
      clear hs
      intro wr hbw
      clear P hR hR' c5 c6 f5 f6 z5 z6
      have H3 := ((H2.out.thru hbw).set 4 rfl 0 (.int .i64 (ack + 1)) (by simp))
      obtain ⟨z9, c9, f9⟩ := (H2.out.thru hbw).box 4 rfl
      obtain ⟨z7, c7, f7⟩ := (H2.out.thru hbw).box 5 rfl
      obtain ⟨zu, cu, fu⟩ := (H2.out.thru hbw).box 7 rfl
      obtain ⟨z10, c10, f10⟩ := (H2.out.thru hbw).box 2 rfl
      have m1 := H2.out.ne_cells 4 5 rfl rfl (by decide)
      have m2 := H2.out.ne_cells 4 7 rfl rfl (by decide)
      have m3 := H2.out.ne_cells 2 4 rfl rfl (by decide)
      have m1' : ¬ b7 = b9 := fun e => m1 e.symm
      have m2' : ¬ ub = b9 := fun e => m2 e.symm
      have m3' : ¬ b9 = b10 := fun e => m3 e.symm
      clear H2
      replace H3 := Lib.hid H3
      go_wp2_with fail
      refine wp_region_near_tail 9 (by kernel_rfl) (by kernel_rfl) ?_
      intro hs
      simp only [List.take_succ_cons, List.take_zero, List.drop_succ_cons, List.drop_zero]
      repeat (go_big_quiet_step ((first | (go_at_call 120; exact Calls.near (by simp) (time_any _ _)))))
      refine wpQuiet_nil ?_
      clear hs
      intro wt hbt
      have H4 : St w S wt (cellA b9 [.int .i64 (ack + 1), .int .i64 0, .int .i64 mark, .int .i64 trip, .int .i64 0] :: cellA b5 [.int .i64 fr] :: cellA b6 [.slice ra n cap] :: cellA b10 [.slice a L.length c] :: rowA 1 (.slice a L.length c) L.length (encs (L.map ptr)) :: cellA b7 [.int .i64 now] :: unsA L :: cellA ub [.int .i64 seq, .int .i64 at_, .int .i64 later] :: unsA rest :: []) := H3.out.thru hbt
      clear H3 z7 c7 f7 zu cu fu z10 c10 f10 z9 c9 f9
      obtain ⟨z9, c9, f9⟩ := H4.box 0 rfl
      obtain ⟨z10, c10, f10⟩ := H4.box 3 rfl
      have ht : 0 ≤ timeV now ∧ timeV now ≤ 1099511627776 := by unfold timeV; omega
      obtain ⟨ht1, ht2⟩ := ht
      obtain ⟨ha1, ha2⟩ := hat
      replace H4 := Lib.hid H4
      have hw := IntWalk.wrap64_in (timeV now - at_) (by omega)
      obtain ⟨tv, htv⟩ : ∃ tv, tv = max (timeV now - at_) 1 := ⟨_, rfl⟩
      go_wp2_with fail
      simp only [hw, ← htv]
      have H5 : St w S _ (cellA b9 [.int .i64 (ack + 1), .int .i64 0, .int .i64 mark, .int .i64 tv, .int .i64 0] :: cellA b5 [.int .i64 fr] :: cellA b6 [.slice ra n cap] :: cellA b10 [.slice a L.length c] :: rowA 1 (.slice a L.length c) L.length (encs (L.map ptr)) :: cellA b7 [.int .i64 now] :: unsA L :: cellA ub [.int .i64 seq, .int .i64 at_, .int .i64 later] :: unsA rest :: []) := H4.out.set 0 rfl 3 (.int .i64 tv) (by simp)
      clear H4 z9 c9 f9 z10 c10 f10 hw m1 m2 m3 m1' m2' m3' hv
      replace H5 := Lib.hid H5
      replace htv := Lib.hid htv
      obtain ⟨N, hN⟩ : ∃ N, N = L.length := ⟨_, rfl⟩
      rw [← hN] at hah
      replace hN := Lib.hid hN
      go_loopg [10, 45] N (fun g _ i wr2 => ∃ j : Nat, j ≤ N ∧ g = N - j ∧ i = .int .i64 j ∧ Hid (St w S wr2 (cellA b9 [.int .i64 (ack + 1), .int .i64 0, .int .i64 mark, .int .i64 tv, .int .i64 0] :: cellA b5 [.int .i64 fr] :: cellA b6 [.slice ra n cap] :: cellA b10 [.slice a L.length c] :: rowA 1 (.slice a L.length c) L.length (encs (L.map ptr)) :: cellA b7 [.int .i64 now] :: unsA ((L.take j).map incU ++ L.drop j) :: cellA ub [.int .i64 seq, .int .i64 at_, .int .i64 later] :: unsA rest :: [])))
      case atStart => exact ⟨0, by omega, by omega, rfl, H5.out⟩
      case round =>
        clear H5
        obtain ⟨j, hj, hg, rfl, HL⟩ := hrel
        replace hg := Lib.hid hg
        by_cases hlt : j < N
        · have hjl : j < L.length := by have := hN.out; omega
          have hd : L.drop j = L[j] :: L.drop (j + 1) := List.drop_eq_getElem_cons hjl
          have hu : (L.take j).map incU ++ incU L[j] :: L.drop (j + 1) = (L.take (j + 1)).map incU ++ L.drop (j + 1) := by
            rw [List.take_succ_eq_append_getElem hjl, List.map_append, List.append_assoc]; rfl
          have HL1 := HL.out
          rw [hd] at HL1
          have HL2 := uns_split (HL1.arr [6, 0, 1, 2, 3, 4, 5, 7, 8] rfl)
          obtain ⟨bg, off, rfl, hbg, e0⟩ := ptr_at (St.rd (by omega) 7 HL2 rfl) hjl
          have hx := hlat.out L[j] (List.getElem_mem hjl)
          generalize L[j] = x at *
          obtain ⟨xb, xs, xa, xl⟩ := x
          simp only at hx e0
          obtain ⟨zx, cx, fx⟩ := HL2.box 0 rfl
          simp only at zx cx fx
          have HL3 := HL2.set 0 rfl 2 (.int .i64 (xl + 1)) (by simp)
          clear HL HL1 HL2
          replace HL3 := Lib.hid HL3
          replace hu := Lib.hid hu
          replace hd := Lib.hid hd
          have qj : decide ((j : Int) < (L.length : Int)) = true := decide_eq_true (by omega)
          obtain ⟨hx1, hx2⟩ := hx
          go_wp2_with fail
          go_roundg (N - (j + 1))
          case measure => have := hg.out; omega
          case rel =>
            refine ⟨j + 1, by omega, rfl, by go_num, ?_⟩
            rw [← hu.out]
            exact (uns_unite (x := incU ⟨xb, xs, xa, xl⟩) HL3.out).arrN [1, 2, 3, 4, 5, 6, 0, 7, 8] rfl
        · have qj : decide ((j : Int) < (L.length : Int)) = false := decide_eq_false (by have := hN.out; omega)
          have qj' : ¬ j < L.length := by have := hN.out; omega
          have hL : (L.take j).map incU ++ L.drop j = L.map incU := by
            have : j = L.length := by have := hN.out; omega
            subst this
            simp
          replace HL := HL.out
          rw [hL] at HL
          clear hL hlat
          replace HL := Lib.hid HL
          go_wp2_with fail
          go_ret
          refine ⟨rfl, acc_shut (v := .slice a L.length c) ?_⟩
          rw [← htv.out]
          simp only [List.length_map, List.map_map]
          exact (HL.out.drop 7 rfl).arrN [1, 2, 3, 4, 0, 5, 6, 7] rfl
end Go.Proofs.Ytpajedpkdfacoaa.Flight
