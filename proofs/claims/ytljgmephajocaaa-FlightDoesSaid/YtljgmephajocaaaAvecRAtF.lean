/- The answer At of avec. -/
import Derived.Test.YtljgmephajocaaaAvecAt2F
import Derived.Test.YtljgmephajocaaaStepRd
namespace Go.Proofs.Ytljgmephajocaaa.Avec
set_option linter.unusedSimpArgs false
set_option linter.unusedVariables false
open Go Go.RowKit Go.Proofs.Ytljgmephajocaaa Go.Proofs.Ytljgmephajocaaa.Circ
attribute [local irreducible] Calls

theorem int_info : (Try.prog.info? 3).map (fun i => (i.zero, i.size, i.bytes)) = some (some (.int .i64 0), 1, 8) := by kernel_rfl
theorem i64s_app (l : List Int) (n : Int) : i64s l ++ [Value.int .i64 n] = i64s (l ++ [n]) := by simp [i64s]
theorem ints_cell {w : World} {a : Option Addr} {l : List Int} (h : Rd w a (i64s l)) {n : Nat} (hn : l.length = n) (h0 : 0 < n) :
    ∃ b off, a = some ⟨b, off, none⟩ ∧ b < w.heap.size ∧ ∀ i (hi : i < l.length), w.cell? ⟨b, off + i, none⟩ = some (.int .i64 l[i]) := by
  obtain ⟨b, off, e, hb, hc⟩ := h.cons (i64s_ne hn h0)
  exact ⟨b, off, e, hb, fun i hi => hc i _ (i64s_at hi)⟩
set_option maxRecDepth 100000 in
set_option maxHeartbeats 400000 in
theorem states_ref (l : List Run) (n : Nat) (hl : l.length = n) (hn : n ≤ 1000000) (a : Option Addr) (cap : Nat) (w : World) (h : Rd w a (runs l)) :
    Calls Try.prog 138 #[.slice a n cap] w (fun e w' => ∃ v, e = .returned v ∧ St w none0 w' [rowA 1 v (statesL l).length (i64s (statesL l))]) := by
  obtain ⟨i0, hi, hz, hz1, hz2⟩ := info_parts int_info
  replace h := Lib.hid h; replace hl := Lib.hid hl
  go_enter Try.func138, Try.ntmps138
  go_wp2_with fail
  go_loopg [3, 4, 5] n (fun g ov i _ wr => ∃ (j : Nat) (O : List Int), j ≤ n ∧ g = n - j ∧ i = .int .i64 j ∧ Hid (O = statesL (l.take j)) ∧ St w none0 wr [rowA 1 ov O.length (i64s O)])
  case atStart => exact ⟨0, [], by omega, by omega, rfl, rfl, (St.zero w).row_nil⟩
  case round =>
    obtain ⟨ov, hov⟩ : ∃ v, v = u3 := ⟨_, rfl⟩
    subst hov
    obtain ⟨j, O, hj, hg, rfl, hO, hst⟩ := hrel
    by_cases hlt : j < n
    · have hjl : j < l.length := by have := hl.out; omega
      have hnx := states_take hjl
      rw [← hO.out] at hnx
      have hOl : O.length ≤ 64 * n := by
        have := states_len (l.take j)
        rw [← hO.out, List.length_take] at this
        omega
      have hbd := held_bd l[j].many
      replace hst := Lib.hid hst; replace hnx := Lib.hid hnx
      go_wp2_with fail
      go_loopg [3, 5] (heldI l[j].many).toNat (fun g pv k wr => ∃ q : Nat, q ≤ (heldI l[j].many).toNat ∧ g = (heldI l[j].many).toNat - q ∧ k = .int .i64 q ∧ St w none0 wr [rowA 1 pv (O ++ List.replicate q l[j].state).length (i64s (O ++ List.replicate q l[j].state))])
      case atStart => exact ⟨0, by omega, by omega, rfl, by simpa using hst.out⟩
      case round =>
        obtain ⟨pv, hpv⟩ : ∃ v, v = u3 := ⟨_, rfl⟩
        subst hpv
        obtain ⟨q, hq, hg2, rfl, hst2⟩ := hrel
        clear hst
        obtain ⟨b, off, rfl, hb, hc⟩ := runs_at (h.out.below hst2.below) hl.out (by omega)
        obtain ⟨e0, e1⟩ := hc j hjl
        clear hc
        have hrep : O ++ List.replicate q l[j].state ++ [l[j].state] = O ++ List.replicate (q + 1) l[j].state := by rw [List.replicate_succ', List.append_assoc]
        have hql : (O ++ List.replicate q l[j].state).length = O.length + q := by simp
        by_cases hq2 : q < (heldI l[j].many).toNat
        · have d1 : decide ((q : Int) < heldI l[j].many) = true := decide_eq_true (by omega)
          replace hrep := Lib.hid hrep; replace hst2 := Lib.hid hst2
          go_wp2_with fail
          refine Calls.mono (held_ref _ _) ?_
          rintro e w4 ⟨rfl, hb4⟩
          have H4 := hst2.out.thru hb4
          obtain ⟨c4, f4⟩ := Below.blk hb4 (b := b) (by first | (simp; done) | omega | (simp; omega))
          have z4 : b < w4.heap.size := Nat.lt_of_lt_of_le hb hb4.size
          replace H4 := Lib.hid H4
          go_wp2_with (at_builtin; (refine wpList_appS rfl (.tmp 22) (.tmp 28) _ rfl 3 i0 _ 1 8 Try.underlying46 hi hz hz1 hz2 rfl (by omega) 0 pv _ _ rfl H4.out rfl 1 1 [.int .i64 l[j].state] rfl rfl (by simp [Value.oneCell']) (by omega) (by omega) ?_; intro wv5 w5 H5; rw [i64s_app, hrep.out] at H5; replace H5 := Lib.hid H5))
          go_roundg ((heldI l[j].many).toNat - (q + 1))
          case measure => omega
          case rel => exact ⟨q + 1, by omega, rfl, by go_num, by rw [← hrep.out, List.length_append]; rw [hrep.out]; exact H5.out⟩
        · have d1 : decide ((q : Int) < heldI l[j].many) = false := decide_eq_false (by omega)
          obtain rfl : q = (heldI l[j].many).toNat := by omega
          rw [← hnx.out] at hst2
          replace hrep := Lib.hid hrep; replace hst2 := Lib.hid hst2
          go_wp2_with fail
          refine Calls.mono (held_ref _ _) ?_
          rintro e w4 ⟨rfl, hb4⟩
          have H4 := hst2.out.thru hb4
          replace H4 := Lib.hid H4
          go_wp2_with fail
          go_roundg (n - (j + 1))
          case measure => omega
          case rel => exact ⟨j + 1, statesL (l.take (j + 1)), by omega, rfl, by go_num, rfl, H4.out⟩
    · obtain rfl : j = n := by omega
      have hf : O = statesL l := by rw [hO.out, List.take_of_length_le (by have := hl.out; omega)]
      replace hf := Lib.hid hf; replace hst := Lib.hid hst
      go_wp2_with fail
      go_ret
      rw [← hf.out]
      exact ⟨_, rfl, hst.out⟩
set_option maxRecDepth 100000 in
set_option maxHeartbeats 400000 in
theorem rat_any (f s x : Int) (l : List Run) (n : Nat) (hn : l.length = n) (hb : n ≤ 1000000) (a : Option Addr) (cap : Nat) (w : World) (h : Rd w a (runs l))
    (h1 : ∀ j (hj : j < (statesL l).length), ofC (f - j) = ofC s → (∀ k : Nat, k < j → ofC (f - k) ≠ ofC s) → x = (statesL l)[j]) (h2 : (∀ j, j < (statesL l).length → ofC (f - j) ≠ ofC s) → x = 3) :
    Calls Try.prog 101 #[.int .i64 f, .slice a n cap, .int .i64 s] w (Ret w (.int .i64 x)) := by
  have P := fun W hW => states_ref l n hn hb a cap W hW
  have hL : (statesL l).length ≤ 64 * n := by rw [← hn]; exact states_len l
  replace P := P w h
  clear h hn
  generalize statesL l = L at *
  have hfo : ∀ j : Nat, j < L.length → ofC (ofC f - j) = ofC (f - j) := fun j _ => by unfold ofC; omega
  obtain ⟨c0, c1⟩ := ofC_bd f
  replace P := Lib.hid P; replace h1 := Lib.hid h1; replace h2 := Lib.hid h2; replace hfo := Lib.hid hfo
  go_enter Try.func101, Try.ntmps101
  go_wp2_with fail
  refine Calls.mono P.out ?_
  rintro e w1 ⟨v, rfl, H1⟩
  clear P
  obtain ⟨a1, cap1, rfl, hm1, _, R1⟩ := (H1.row 0 rfl).rd (by omega)
  unfold maxLen at hm1
  have hbw := H1.below
  clear H1
  replace R1 := Lib.hid R1
  go_wp2_with fail
  go_loopg [8] L.length (fun gg i wr => ∃ j : Nat, j ≤ L.length ∧ gg = L.length - j ∧ i = .int .i64 j ∧ Hid (∀ q, q < j → ofC (f - q) ≠ ofC s) ∧ Below w1.heap.size w1 wr)
  case atStart => exact ⟨0, by omega, by omega, rfl, (fun q hq => by omega), (by repeat (first | with_reducible exact Below.refl _ _ | (with_reducible refine Below.al ?_) | (with_reducible refine Below.drew ?_) | (with_reducible refine Below.set ?_ (by first | (simp; done) | omega | (simp; omega))) | (with_reducible refine Below.thru ?_ (by assumption)) | (with_reducible refine Below.chg ?_ (by assumption) (by first | (simp; done) | omega | (simp; omega)))))⟩
  case round =>
    obtain ⟨j, hj, hg, rfl, hno, hbr⟩ := hrel
    by_cases hlt : j < L.length
    · obtain ⟨b, off, rfl, hb2, hc⟩ := ints_cell (R1.out.below hbr) rfl (by omega)
      have e0 := hc j hlt
      have ef := hfo.out j hlt
      have E0 := fun W => rof_any f W
      have E1 := fun W => rof_any (ofC f - j) W
      have E2 := fun W => rof_any s W
      rw [ef] at E1
      clear hc ef
      by_cases hq : ofC (f - j) = ofC s
      · have hx := h1.out j hlt hq (fun k hk => hno.out k hk)
        rw [← hx] at e0
        have q : (ofC (f - j) == ofC s) = true := by simpa using hq
        generalize ofC (f - j) = y at *
        generalize ofC s = y2 at *
        replace E0 := Lib.hid E0; replace E1 := Lib.hid E1; replace E2 := Lib.hid E2; replace hq := Lib.hid hq; replace hx := Lib.hid hx
        go_wp2_with fail
        refine Calls.mono (E0.out _) ?_
        rintro e w1 ⟨rfl, hb1⟩
        have z1 := Below.size hb1; try simp only [World.size_alloc, World.size_setCell, World.size_drew] at z1
        obtain ⟨c1_0, f1_0⟩ := Below.blk hb1 (b := b) (by first | (simp; done) | omega | (simp; omega))
        have z1_0 : b < w1.heap.size := (by first | (simp; done) | omega | (simp; omega))
        go_wp2_with fail
        refine Calls.mono (E1.out _) ?_
        rintro e w2 ⟨rfl, hb2⟩
        have z2 := Below.size hb2; try simp only [World.size_alloc, World.size_setCell, World.size_drew] at z2
        obtain ⟨c2_0, f2_0⟩ := Below.blk hb2 (b := b) (by first | (simp; done) | omega | (simp; omega))
        have z2_0 : b < w2.heap.size := (by first | (simp; done) | omega | (simp; omega))
        go_wp2_with fail
        refine Calls.mono (E2.out _) ?_
        rintro e w3 ⟨rfl, hb3⟩
        have z3 := Below.size hb3; try simp only [World.size_alloc, World.size_setCell, World.size_drew] at z3
        obtain ⟨c3_0, f3_0⟩ := Below.blk hb3 (b := b) (by first | (simp; done) | omega | (simp; omega))
        have z3_0 : b < w3.heap.size := (by first | (simp; done) | omega | (simp; omega))
        clear E0 E1 E2
        go_wp2_with fail
        go_ret
        exact Ret.mk rfl (by repeat (first | with_reducible exact Below.refl _ _ | (with_reducible refine Below.al ?_) | (with_reducible refine Below.drew ?_) | (with_reducible refine Below.set ?_ (by first | (simp; done) | omega | (simp; omega))) | (with_reducible refine Below.thru ?_ (by assumption)) | (with_reducible refine Below.chg ?_ (by assumption) (by first | (simp; done) | omega | (simp; omega)))))
      · have q : (ofC (f - j) == ofC s) = false := by simpa using hq
        have hno' : ∀ q, q < j + 1 → ofC (f - q) ≠ ofC s := fun q hq2 => by
          by_cases e : q = j
          · subst e; exact hq
          · exact hno.out q (by omega)
        generalize hy : ofC (f - j) = y at *
        generalize hy2 : ofC s = y2 at *
        replace E0 := Lib.hid E0; replace E1 := Lib.hid E1; replace E2 := Lib.hid E2; replace hq := Lib.hid hq; replace hno' := Lib.hid hno'; replace hy := Lib.hid hy; replace hy2 := Lib.hid hy2
        go_wp2_with fail
        refine Calls.mono (E0.out _) ?_
        rintro e w1 ⟨rfl, hb1⟩
        have z1 := Below.size hb1; try simp only [World.size_alloc, World.size_setCell, World.size_drew] at z1
        obtain ⟨c1_0, f1_0⟩ := Below.blk hb1 (b := b) (by first | (simp; done) | omega | (simp; omega))
        have z1_0 : b < w1.heap.size := (by first | (simp; done) | omega | (simp; omega))
        go_wp2_with fail
        refine Calls.mono (E1.out _) ?_
        rintro e w2 ⟨rfl, hb2⟩
        have z2 := Below.size hb2; try simp only [World.size_alloc, World.size_setCell, World.size_drew] at z2
        obtain ⟨c2_0, f2_0⟩ := Below.blk hb2 (b := b) (by first | (simp; done) | omega | (simp; omega))
        have z2_0 : b < w2.heap.size := (by first | (simp; done) | omega | (simp; omega))
        go_wp2_with fail
        refine Calls.mono (E2.out _) ?_
        rintro e w3 ⟨rfl, hb3⟩
        have z3 := Below.size hb3; try simp only [World.size_alloc, World.size_setCell, World.size_drew] at z3
        obtain ⟨c3_0, f3_0⟩ := Below.blk hb3 (b := b) (by first | (simp; done) | omega | (simp; omega))
        have z3_0 : b < w3.heap.size := (by first | (simp; done) | omega | (simp; omega))
        clear E0 E1 E2
        go_wp2_with fail
        go_roundg (L.length - (j + 1))
        case measure => omega
        case rel => exact ⟨j + 1, by omega, rfl, by go_num, hno', (by repeat (first | with_reducible exact Below.refl _ _ | (with_reducible refine Below.al ?_) | (with_reducible refine Below.drew ?_) | (with_reducible refine Below.set ?_ (by first | (simp; done) | omega | (simp; omega))) | (with_reducible refine Below.thru ?_ (by assumption)) | (with_reducible refine Below.chg ?_ (by assumption) (by first | (simp; done) | omega | (simp; omega)))))⟩
    · obtain rfl : j = L.length := by omega
      have hx := h2.out (fun q hq => hno.out q hq)
      replace hx := Lib.hid hx
      go_wp2_with fail
      go_ret
      exact Ret.mk (congrArg (Value.int .i64) hx.out.symm) (by repeat (first | with_reducible exact Below.refl _ _ | (with_reducible refine Below.al ?_) | (with_reducible refine Below.drew ?_) | (with_reducible refine Below.set ?_ (by first | (simp; done) | omega | (simp; omega))) | (with_reducible refine Below.thru ?_ (by assumption)) | (with_reducible refine Below.chg ?_ (by assumption) (by first | (simp; done) | omega | (simp; omega)))))

theorem find_at (f s : Int) (R : List Run) : (∀ j (hj : j < (statesL R).length), ofC (f - j) = ofC s → (∀ k : Nat, k < j → ofC (f - k) ≠ ofC s) → findV (eachL f R) (ofC s) = (statesL R)[j]) ∧
    ((∀ j, j < (statesL R).length → ofC (f - j) ≠ ofC s) → findV (eachL f R) (ofC s) = 3) := by
  constructor
  · intro j hj he hno
    obtain ⟨h1, _⟩ := each_split (f := f) (List.getElem?_eq_getElem hj)
    exact find_hit h1 (by
      intro y hy
      obtain ⟨k, hk, rfl⟩ := List.getElem_of_mem hy
      rw [List.length_take, each_len] at hk
      simp only [List.getElem_take, eachL, List.getElem_mapIdx]
      exact hno k (by omega)) he
  · intro hno
    refine find_none ?_
    intro y hy
    obtain ⟨k, hk, rfl⟩ := List.getElem_of_mem hy
    rw [each_len] at hk
    simp only [eachL, List.getElem_mapIdx]
    exact hno k hk

end Go.Proofs.Ytljgmephajocaaa.Avec
