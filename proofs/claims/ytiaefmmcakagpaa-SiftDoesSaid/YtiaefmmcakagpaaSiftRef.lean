/- The walks of the sift's answer: least, release. -/
import Derived.Test.YtiaefmmcakagpaaSiftWorks
import Derived.Test.YtiaefmmcakagpaaMadeT
import Derived.WalkSpells
namespace Go.Proofs.Ytiaefmmcakagpaa.Sift
set_option linter.unusedSimpArgs false
set_option linter.unusedVariables false
open Go Go.RowKit Go.Shelf Go.Proofs.Ytiaefmmcakagpaa
open Go.Proofs.Ytiaefmmcakagpaa.DockWait (El enc val encs encs_len encs_one encs_take encs_drop enc_len placed headV)
attribute [local irreducible] Calls

theorem wt_info : (Try.prog.info? 109).map (fun i => (i.zero, i.size, i.bytes)) = some (some (.agg #[.int .i64 0, .string ByteArray.empty, .int .i64 0]), 3, 32) := by kernel_rfl
def refS (q : Nat) (c : Int) (L : List El) : Asn := exA fun v => sepA [cellA q [v, .int .i64 c], rowA 3 v L.length (encs L)]
theorem refS_parts {W w : World} {S : Nat → Prop} {q : Nat} {c : Int} {L : List El} {r : List Asn} (h : St W S w (refS q c L :: r)) :
    ∃ a cap, St W S w (cellA q [.slice a L.length cap, .int .i64 c] :: rowA 3 (.slice a L.length cap) L.length (encs L) :: r) := by
  obtain ⟨v, h1⟩ := St.unex 0 h rfl
  have h2 : St W S w (cellA q [v, .int .i64 c] :: rowA 3 v L.length (encs L) :: r) := St.unsep 0 h1 rfl
  obtain ⟨a, cap, rfl, _⟩ := St.slice (by omega) 1 h2 rfl
  exact ⟨a, cap, h2⟩
theorem refS_shut {W w : World} {S : Nat → Prop} {q n : Nat} {c : Int} {L : List El} {v : Value} {r : List Asn} (hn : L.length = n) (h : St W S w (cellA q [v, .int .i64 c] :: rowA 3 v n (encs L) :: r)) : St W S w (refS q c L :: r) := by
  subst hn
  exact St.ex (fun v => sepA [cellA q [v, .int .i64 c], rowA 3 v L.length (encs L)]) v (St.join [_, _] r h)
theorem wait_at {w : World} {a : Option Addr} {l : List El} (h : Rd w a (encs l)) {n : Nat} (hn : l.length = n) (h0 : 0 < n) :
    ∃ b off, a = some ⟨b, off, none⟩ ∧ b < w.heap.size ∧ ∀ i (hi : i < l.length), w.cell? ⟨b, off + i * 3, none⟩ = some (.int .i64 l[i].1) ∧ w.cell? ⟨b, off + i * 3 + 1, none⟩ = some (.string l[i].2.1) ∧ w.cell? ⟨b, off + i * 3 + 2, none⟩ = some (.int .i64 l[i].2.2) := by
  obtain ⟨b, off, e, hb, hc⟩ := Rd.rows enc_len (by omega) h hn h0
  exact ⟨b, off, e, hb, fun i hi => ⟨hc i hi 0 _ rfl, hc i hi 1 _ rfl, hc i hi 2 _ rfl⟩⟩

def IsLeast (L : List El) (i : Int) : Prop := (L = [] ∧ i = -1) ∨ ∃ k : Nat, ∃ hk : k < L.length, i = k ∧ ∀ m (hm : m < L.length), L[k].1 ≤ L[m].1
def BestAt (L : List El) (j : Nat) (i : Int) : Prop := (j = 0 ∧ i = -1) ∨ ∃ k : Nat, ∃ hk : k < L.length, k < j ∧ i = k ∧ ∀ m (hm : m < L.length), m < j → L[k].1 ≤ L[m].1
theorem BestAt.is {L : List El} {i : Int} (h : BestAt L L.length i) : IsLeast L i := by
  rcases h with ⟨h0, h⟩ | ⟨k, hk, _, h, h2⟩
  · exact .inl ⟨List.eq_nil_of_length_eq_zero h0, h⟩
  · exact .inr ⟨k, hk, h, fun m hm => h2 m hm hm⟩
set_option maxHeartbeats 400000 in
theorem least_any (q : Nat) (c : Int) (L : List El) (w : World) (S : Nat → Prop) (h : (refS q c L).holds w S) (hl : L.length ≤ 1000) :
    Calls Try.prog 74 #[.pointer (some ⟨q, 0, none⟩)] w (fun e w' => ∃ i : Int, e = .returned (.int .i64 i) ∧ Below w.heap.size w w' ∧ IsLeast L i) := by
  obtain ⟨ga, cap, H⟩ := refS_parts (St.start (Sep.one h))
  have B := H.box 0 rfl
  have R := St.rd (by omega) 1 H rfl
  clear h H
  obtain ⟨z, k0, f⟩ := id B
  replace R := Lib.hid R; replace B := Lib.hid B
  go_enter Try.func74, Try.ntmps74
  go_wp2_with fail
  go_loopg [3, 4] L.length (fun g v3 v4 wr => ∃ (j : Nat) (b : Int), j ≤ L.length ∧ g = L.length - j ∧ v3 = .int .i64 b ∧ v4 = .int .i64 j ∧ Below w.heap.size w wr ∧ Hid (BestAt L j b))
  case atStart => exact ⟨0, -1, by omega, by omega, rfl, rfl, Below.refl _ _, Lib.hid (.inl ⟨rfl, rfl⟩)⟩
  case round =>
    obtain ⟨j, b, hj, hg, rfl, rfl, hbw, hB⟩ := hrel
    obtain ⟨z1, k1, f1⟩ := Box.below B.out hbw
    clear z k0 f
    by_cases hlt : j < L.length
    · obtain ⟨bb, off, rfl, hb, hc⟩ := wait_at (R.out.below hbw) rfl (by omega)
      obtain ⟨e0, e1, e2⟩ := hc j hlt
      replace hg := Lib.hid hg
      rcases hB.out with ⟨h0, rfl⟩ | ⟨k, hk, hkj, rfl, hmin⟩
      · subst h0
        clear hc
        simp only [Nat.zero_mul, Nat.add_zero] at e0
        have hN : BestAt L 1 0 := .inr ⟨0, hlt, by omega, rfl, fun m hm hm1 => by
          have e : m = 0 := by omega
          subst e
          exact Int.le_refl _⟩
        go_wp2_with fail
        refine wp_region_near (by kernel_rfl) (by kernel_rfl) ?_
        intro hs
        repeat (go_big_quiet_step (fail))
        refine wpQuiet_nil ?_
        clear hs
        intro w5 hb5
        go_wp2_with fail
        go_roundg (L.length - (0 + 1))
        case measure => have := hg.out; omega
        case rel => exact ⟨1, 0, by omega, rfl, by go_num, by go_num, (by repeat (first | with_reducible exact Below.refl _ _ | (with_reducible refine Below.al ?_) | (with_reducible refine Below.drew ?_) | (with_reducible refine Below.set ?_ (by first | (simp; done) | omega | (simp; omega))) | (with_reducible refine Below.thru ?_ (by assumption)) | (with_reducible refine Below.chg ?_ (by assumption) (by first | (simp; done) | omega | (simp; omega))))), Lib.hid hN⟩
      · obtain ⟨d0, d1, d2⟩ := hc k hk
        have t0 : decide ((k : Int) < 0) = false := decide_eq_false (by omega)
        have t1 : (0 : Int) ≤ k ∧ (k : Int) < L.length := ⟨by omega, by omega⟩
        have t2 : (0 : Int) ≤ j ∧ (j : Int) < L.length := ⟨by omega, by omega⟩
        clear hc
        by_cases hq : L[j].1 < L[k].1
        · have q1 : decide (L[j].1 < L[k].1) = true := decide_eq_true hq
          have hN : BestAt L (j + 1) j := .inr ⟨j, hlt, by omega, rfl, fun m hm hm1 => by
            rcases Nat.lt_or_eq_of_le (Nat.le_of_lt_succ hm1) with h | h
            · have := hmin m hm h; omega
            · subst h; exact Int.le_refl _⟩
          clear hmin
          generalize L[j] = x at *
          generalize L[k] = y at *
          replace hN := Lib.hid hN; replace hB := Lib.hid hB; replace hq := Lib.hid hq
          go_wp2_with fail
          refine wp_region_near (by kernel_rfl) (by kernel_rfl) ?_
          intro hs
          repeat (go_big_quiet_step (fail))
          refine wpQuiet_nil ?_
          clear hs
          intro w5 hb5
          go_wp2_with fail
          go_roundg (L.length - (j + 1))
          case measure => have := hg.out; omega
          case rel => exact ⟨j + 1, j, by omega, rfl, rfl, by go_num, (by repeat (first | with_reducible exact Below.refl _ _ | (with_reducible refine Below.al ?_) | (with_reducible refine Below.drew ?_) | (with_reducible refine Below.set ?_ (by first | (simp; done) | omega | (simp; omega))) | (with_reducible refine Below.thru ?_ (by assumption)) | (with_reducible refine Below.chg ?_ (by assumption) (by first | (simp; done) | omega | (simp; omega))))), hN⟩
        · have q1 : decide (L[j].1 < L[k].1) = false := decide_eq_false hq
          have hN : BestAt L (j + 1) k := .inr ⟨k, hk, by omega, rfl, fun m hm hm1 => by
            rcases Nat.lt_or_eq_of_le (Nat.le_of_lt_succ hm1) with h | h
            · exact hmin m hm h
            · subst h; omega⟩
          clear hmin
          generalize L[j] = x at *
          generalize L[k] = y at *
          replace hN := Lib.hid hN; replace hB := Lib.hid hB; replace hq := Lib.hid hq
          go_wp2_with fail
          refine wp_region_near (by kernel_rfl) (by kernel_rfl) ?_
          intro hs
          repeat (go_big_quiet_step (fail))
          refine wpQuiet_nil ?_
          clear hs
          intro w5 hb5
          go_wp2_with fail
          go_roundg (L.length - (j + 1))
          case measure => have := hg.out; omega
          case rel => exact ⟨j + 1, k, by omega, rfl, rfl, by go_num, (by repeat (first | with_reducible exact Below.refl _ _ | (with_reducible refine Below.al ?_) | (with_reducible refine Below.drew ?_) | (with_reducible refine Below.set ?_ (by first | (simp; done) | omega | (simp; omega))) | (with_reducible refine Below.thru ?_ (by assumption)) | (with_reducible refine Below.chg ?_ (by assumption) (by first | (simp; done) | omega | (simp; omega))))), hN⟩
    · obtain rfl : j = L.length := by omega
      replace hg := Lib.hid hg
      go_wp2_with fail
      go_ret
      exact ⟨b, rfl, (by repeat (first | with_reducible exact Below.refl _ _ | (with_reducible refine Below.al ?_) | (with_reducible refine Below.drew ?_) | (with_reducible refine Below.set ?_ (by first | (simp; done) | omega | (simp; omega))) | (with_reducible refine Below.thru ?_ (by assumption)) | (with_reducible refine Below.chg ?_ (by assumption) (by first | (simp; done) | omega | (simp; omega))))), hB.out.is⟩

theorem rd_pre {w : World} {a : Option Addr} {xs : List Value} (h : Rd w a xs) (k : Nat) : Rd w a (xs.take k) := by
  rcases h with rfl | ⟨b, off, e, hb, hc⟩
  · exact .inl (by simp)
  · refine .inr ⟨b, off, e, hb, fun j u hu => hc j u ?_⟩
    rw [List.getElem?_take] at hu
    split at hu
    · exact hu
    · cases hu
theorem rd_post {w : World} {b off : Nat} {xs : List Value} (h : Rd w (some ⟨b, off, none⟩) xs) (k : Nat) : Rd w (some ⟨b, off + k, none⟩) (xs.drop k) := by
  rcases h with rfl | ⟨b', off', e, hb, hc⟩
  · exact .inl (by simp)
  · cases e
    refine .inr ⟨b, off + k, rfl, hb, fun j u hu => ?_⟩
    rw [List.getElem?_drop] at hu
    rw [Nat.add_assoc]
    exact hc _ u hu
theorem least_is {L l : List El} {x : El} {i : Int} (hp : L.Perm (x :: l)) (hu : Up (x :: l)) (h : IsLeast L i) : ∃ k, ∃ hk : k < L.length, i = k ∧ L[k] = x ∧ (L.take k ++ L.drop (k + 1)).Perm l := by
  rcases h with ⟨h, _⟩ | ⟨k, hk, hi, hm⟩
  · subst h
    exact absurd hp.length_eq (by simp)
  · have h1 : L[k] = x := by
      obtain ⟨m, hm1, hm2⟩ := List.getElem_of_mem (hp.mem_iff.2 (List.mem_cons_self (a := x) (l := l)))
      have h2 := hm m hm1
      rw [hm2] at h2
      rcases List.mem_cons.1 (hp.mem_iff.1 (List.getElem_mem hk)) with h3 | h3
      · exact h3
      · have := (List.pairwise_cons.1 hu).1 _ h3
        omega
    refine ⟨k, hk, hi, h1, ?_⟩
    have h2 : L.Perm (L[k] :: (L.take k ++ L.drop (k + 1))) := by
      conv => lhs; rw [← List.take_append_drop k L, List.drop_eq_getElem_cons hk]
      exact List.perm_middle
    rw [h1] at h2
    exact (h2.symm.trans hp).cons_inv
def refA (q : Nat) (c : Int) (l : List El) : Asn := exA fun L => andA (L.Perm l) (refS q c L)
theorem refA_parts {W w : World} {S : Nat → Prop} {q : Nat} {c : Int} {l : List El} {r : List Asn} (h : St W S w (refA q c l :: r)) : ∃ L, L.Perm l ∧ St W S w (refS q c L :: r) := by
  obtain ⟨L, h1⟩ := St.unex 0 h rfl
  obtain ⟨hp, h2⟩ := St.unand 0 h1 rfl
  exact ⟨L, hp, h2⟩
theorem refA_shut {W w : World} {S : Nat → Prop} {q : Nat} {c : Int} {l L : List El} {r : List Asn} (hp : L.Perm l) (h : St W S w (refS q c L :: r)) : St W S w (refA q c l :: r) :=
  St.ex (fun L => andA (L.Perm l) (refS q c L)) L (St.and (φ := L.Perm l) hp h)

set_option maxRecDepth 100000 in
set_option maxHeartbeats 1000000 in
theorem rrel_any (q : Nat) (c : Int) (x : El) (l : List El) (hu : Up (x :: l)) (hl : l.length ≤ 900) (w : World) (S : Nat → Prop) (h : (refA q c (x :: l)).holds w S) :
    Calls Try.prog 73 #[.pointer (some ⟨q, 0, none⟩)] w (Fin w S (.agg #[.int .i64 x.1, .string x.2.1]) [refA q x.1 l]) := by
  obtain ⟨i0, hi, hz, hz1, hz2⟩ := info_parts wt_info
  obtain ⟨L, hp, H0⟩ := refA_parts (St.start (Sep.one h))
  have hL : L.length = l.length + 1 := hp.length_eq
  have H1 := H0.alloc [.int .i64 0, .string ByteArray.empty] 45
  obtain ⟨S1, hS1⟩ := H1.held 1 rfl
  have P := least_any q c L _ S1 hS1 (by omega)
  clear h H0 hS1
  replace H1 := Lib.hid H1; replace P := Lib.hid P
  go_enter Try.func73, Try.ntmps73
  go_wp2_with fail
  refine Calls.mono P.out ?_
  rintro e w1 ⟨i, rfl, hb1, hi1⟩
  obtain ⟨k, hk, rfl, hx, hp2⟩ := least_is hp hu hi1
  obtain ⟨ga, cap, H2⟩ := refS_parts ((H1.out.thru hb1).front 1 rfl)
  have R := St.rd (by omega) 1 H2 rfl
  obtain ⟨z2, k2, f2⟩ := H2.box 0 rfl
  obtain ⟨z3, k3, f3⟩ := H2.box 2 rfl
  obtain ⟨b, off, rfl, hb, hc⟩ := wait_at R rfl (by omega)
  obtain ⟨e0, e1, e2⟩ := hc k hk
  rw [hx] at e0 e1 e2
  obtain ⟨x1, x2, x3⟩ := x
  simp only at e0 e1 e2
  clear hc hi1 P H1
  have H3 := H2.set 0 rfl 1 (.int .i64 x1) (by simp)
  have H4 := H3.alloc [.int .i64 x1, .string x2] 45
  simp only [World.size_setCell, List.set_cons_succ, List.set_cons_zero, List.eraseIdx_cons_zero] at H4
  obtain ⟨z4, k4, f4⟩ := H4.box 0 rfl
  obtain ⟨z5, k5, f5⟩ := H4.box 1 rfl
  have hq1 : (k : Int) < L.length := by omega
  have hcp : L.length ≤ cap := by
    rcases (H4.row 2 rfl).2 with ⟨e, _⟩ | ⟨_, _, _, e, _, _, hc, _⟩
    · cases e
    · cases e; exact hc
  replace H2 := Lib.hid H2; replace H3 := Lib.hid H3; replace H4 := Lib.hid H4; replace hx := Lib.hid hx; replace hp2 := Lib.hid hp2; replace hp := Lib.hid hp
  by_cases hcj : cap = k + 1
  · have hni : L.length = k + 1 := by omega
    subst hcj
    go_wp2_with fail
    refine wp_region_to 19 [0, 2, 3, 4, 5, 6, 7, 9, 10, 11, 12, 13, 14, 15] [true, false, true, true, true, true, true, true, false, true, true, true, true, true, true, true, false, false, false, false] 5 #[true, false, true, true, true, true, true, true, false, true, true, true, true, true, true, true, false, false, false, false] (by kernel_rfl) rfl (by kernel_rfl) (by kernel_rfl) rfl (by kernel_rfl) (by kernel_rfl) (by intro c a a' w e h; obtain ⟨t, d⟩ := a; obtain ⟨t', d'⟩ := a'; obtain rfl : d = d' := e; exact h) ?_
    intro hs
    simp only [pickB]
    repeat (go_big_quiet_step (fail))
    refine wpQuiet_nil ?_
    clear hs
    intro W hW
    have H5 := H4.out
    rw [← hW] at H5
    replace H5 := Lib.hid H5
    replace hW := Lib.hid hW
    have Z : St W none0 W.drew [] := (St.zero W).drew
    have R0 : Rd W (some ⟨b, off, none⟩) (encs L) := St.rd (by omega) 2 H5.out rfl
    have R1 : Rd W (some ⟨b, off, none⟩) (encs (L.take k)) := by rw [← encs_take]; exact rd_pre R0 _
    have R2 : Rd W (some ⟨b, off + (k + 1) * 3, none⟩) (encs (L.drop (k + 1))) := by rw [← encs_drop]; exact rd_post R0 _
    refine to_one (i := 1) (by kernel_rfl) fun K hK => ?_
    simp only [List.drop_succ_cons, List.drop_zero, List.take_succ_cons, List.take_zero]
    go_wp2_with fail
    have E1 := Z.alloc [] 109
    refine hK _ _ E1.below ?_
    clear hK K
    have E2 := E1.row_empty (size := 3) 0 rfl
    refine to_one (i := 8) (by kernel_rfl) fun K hK => ?_
    simp only [List.drop_succ_cons, List.drop_zero, List.take_succ_cons, List.take_zero]
    go_wp2_with (at_builtin; (refine wpList_appRd rfl (.tmp 21) (.tmp 27) _ rfl 109 i0 _ 3 32 Try.underlying53 hi hz hz1 hz2 rfl (by omega) 0 _ 0 [] rfl E2 rfl _ k _ (encs (L.take k)) rfl (by rw [encs_len]; simp; try omega) (R1.of_st E2) (fun e => by cases e) (encs_one _) (by omega) (by omega) ?_; intro wv5 w5 HA; (try simp only [Nat.zero_add, List.nil_append] at HA)))
    refine hK _ _ HA.below ?_
    clear hK K
    refine to_one (i := 16) (by kernel_rfl) fun K hK => ?_
    simp only [List.drop_succ_cons, List.drop_zero, List.take_succ_cons, List.take_zero]
    go_wp2_with (at_builtin; (refine wpList_appRd rfl (.tmp 28) (.tmp 35) _ rfl 109 i0 _ 3 32 Try.underlying53 hi hz hz1 hz2 rfl (by omega) 0 _ k (encs (L.take k)) rfl HA rfl _ _ _ (encs (L.drop (k + 1))) rfl (by rw [encs_len]; simp; try omega) (.inl (by rw [List.drop_of_length_le (by omega)]; rfl)) (fun e => by cases e) (encs_one _) (by omega) (by omega) ?_; intro wv5 w5 HA; (try simp only [Nat.zero_add, List.nil_append] at HA)))
    refine hK _ _ HA.below ?_
    clear hK K
    have hb5 := HA.below
    refine to_one (i := 17) (by kernel_rfl) fun K hK => ?_
    simp only [List.drop_succ_cons, List.drop_zero, List.take_succ_cons, List.take_zero]
    go_wp2_with fail
    refine hK _ _ hb5 ?_
    clear hK K
    refine to_one (i := 18) (by kernel_rfl) fun K hK => ?_
    simp only [List.drop_succ_cons, List.drop_zero, List.take_succ_cons, List.take_zero]
    go_wp2_with fail
    refine hK _ _ hb5 ?_
    clear hK K
    refine to_last (by kernel_rfl) (by kernel_rfl) fun K hK => ?_
    simp only [List.drop_succ_cons, List.drop_zero, List.take_succ_cons, List.take_zero]
    have HD := (HA.front 0 rfl).drops 1
    rw [show encs (L.take k) ++ encs (L.drop (k + 1)) = encs (L.take k ++ L.drop (k + 1)) from by simp [encs], show k + (l.length - k) = l.length from by omega] at HD
    obtain ⟨g5, c5, rfl, _⟩ := St.slice (by omega) 0 HD rfl
    have HF := H5.out.add HD
    clear HD HA H5
    obtain ⟨z6, k6, f6⟩ := HF.box 1 rfl
    obtain ⟨z7, k7, f7⟩ := HF.box 2 rfl
    obtain ⟨z8, k8, f8⟩ := HF.box 4 rfl
    have HG := HF.set 2 rfl 0 (.slice g5 l.length c5) (by simp)
    have HS := ((((HG.front 4 rfl).set 0 rfl 0 (.int .i64 x1) (by simp))).set 0 rfl 1 (.string x2) (by simp))
    have n1 := HF.ne_cells 2 4 rfl rfl (by decide)
    have n2 : ¬ w.heap.size = q := fun e => n1 e.symm
    have n3 := HF.ne_cells 1 2 rfl rfl (by decide)
    have n4 : ¬ q = w1.heap.size := fun e => n3 e.symm
    replace HF := Lib.hid HF; replace HG := Lib.hid HG; replace HS := Lib.hid HS
    go_wp2_with fail
    exact bodyPost_ret (v := .agg #[.int .i64 x1, .string x2]) (by simp [results, Try.results73, go_sem, k8, z8]; try rfl) rfl ⟨rfl, (refA_shut hp2.out (refS_shut hp2.out.length_eq (HS.out.arrN [1, 2, 0] rfl))).drops 1⟩
  · have hce : ¬ (cap : Int) = k + 1 := by omega
    go_wp2_with fail
    refine wp_region_to 19 [0, 2, 3, 4, 5, 6, 7, 9, 10, 11, 12, 13, 14, 15] [true, false, true, true, true, true, true, true, false, true, true, true, true, true, true, true, false, false, false, false] 5 #[true, false, true, true, true, true, true, true, false, true, true, true, true, true, true, true, false, false, false, false] (by kernel_rfl) rfl (by kernel_rfl) (by kernel_rfl) rfl (by kernel_rfl) (by kernel_rfl) (by intro c a a' w e h; obtain ⟨t, d⟩ := a; obtain ⟨t', d'⟩ := a'; obtain rfl : d = d' := e; exact h) ?_
    intro hs
    simp only [pickB]
    repeat (go_big_quiet_step (fail))
    refine wpQuiet_nil ?_
    clear hs
    intro W hW
    have H5 := H4.out
    rw [← hW] at H5
    replace H5 := Lib.hid H5
    replace hW := Lib.hid hW
    have Z : St W none0 W.drew [] := (St.zero W).drew
    have R0 : Rd W (some ⟨b, off, none⟩) (encs L) := St.rd (by omega) 2 H5.out rfl
    have R1 : Rd W (some ⟨b, off, none⟩) (encs (L.take k)) := by rw [← encs_take]; exact rd_pre R0 _
    have R2 : Rd W (some ⟨b, off + (k + 1) * 3, none⟩) (encs (L.drop (k + 1))) := by rw [← encs_drop]; exact rd_post R0 _
    refine to_one (i := 1) (by kernel_rfl) fun K hK => ?_
    simp only [List.drop_succ_cons, List.drop_zero, List.take_succ_cons, List.take_zero]
    go_wp2_with fail
    have E1 := Z.alloc [] 109
    refine hK _ _ E1.below ?_
    clear hK K
    have E2 := E1.row_empty (size := 3) 0 rfl
    refine to_one (i := 8) (by kernel_rfl) fun K hK => ?_
    simp only [List.drop_succ_cons, List.drop_zero, List.take_succ_cons, List.take_zero]
    go_wp2_with (at_builtin; (refine wpList_appRd rfl (.tmp 21) (.tmp 27) _ rfl 109 i0 _ 3 32 Try.underlying53 hi hz hz1 hz2 rfl (by omega) 0 _ 0 [] rfl E2 rfl _ k _ (encs (L.take k)) rfl (by rw [encs_len]; simp; try omega) (R1.of_st E2) (fun e => by cases e) (encs_one _) (by omega) (by omega) ?_; intro wv5 w5 HA; (try simp only [Nat.zero_add, List.nil_append] at HA)))
    refine hK _ _ HA.below ?_
    clear hK K
    refine to_one (i := 16) (by kernel_rfl) fun K hK => ?_
    simp only [List.drop_succ_cons, List.drop_zero, List.take_succ_cons, List.take_zero]
    go_wp2_with (at_builtin; (refine wpList_appRd rfl (.tmp 28) (.tmp 35) _ rfl 109 i0 _ 3 32 Try.underlying53 hi hz hz1 hz2 rfl (by omega) 0 _ k (encs (L.take k)) rfl HA rfl _ _ _ (encs (L.drop (k + 1))) rfl (by rw [encs_len]; simp; try omega) (R2.of_st HA) (fun e => by cases e) (encs_one _) (by omega) (by omega) ?_; intro wv5 w5 HA; (try simp only [Nat.zero_add, List.nil_append] at HA)))
    refine hK _ _ HA.below ?_
    clear hK K
    have hb5 := HA.below
    refine to_one (i := 17) (by kernel_rfl) fun K hK => ?_
    simp only [List.drop_succ_cons, List.drop_zero, List.take_succ_cons, List.take_zero]
    go_wp2_with fail
    refine hK _ _ hb5 ?_
    clear hK K
    refine to_one (i := 18) (by kernel_rfl) fun K hK => ?_
    simp only [List.drop_succ_cons, List.drop_zero, List.take_succ_cons, List.take_zero]
    go_wp2_with fail
    refine hK _ _ hb5 ?_
    clear hK K
    refine to_last (by kernel_rfl) (by kernel_rfl) fun K hK => ?_
    simp only [List.drop_succ_cons, List.drop_zero, List.take_succ_cons, List.take_zero]
    have HD := (HA.front 0 rfl).drops 1
    rw [show encs (L.take k) ++ encs (L.drop (k + 1)) = encs (L.take k ++ L.drop (k + 1)) from by simp [encs], show k + (l.length - k) = l.length from by omega] at HD
    obtain ⟨g5, c5, rfl, _⟩ := St.slice (by omega) 0 HD rfl
    have HF := H5.out.add HD
    clear HD HA H5
    obtain ⟨z6, k6, f6⟩ := HF.box 1 rfl
    obtain ⟨z7, k7, f7⟩ := HF.box 2 rfl
    obtain ⟨z8, k8, f8⟩ := HF.box 4 rfl
    have HG := HF.set 2 rfl 0 (.slice g5 l.length c5) (by simp)
    have HS := ((((HG.front 4 rfl).set 0 rfl 0 (.int .i64 x1) (by simp))).set 0 rfl 1 (.string x2) (by simp))
    have n1 := HF.ne_cells 2 4 rfl rfl (by decide)
    have n2 : ¬ w.heap.size = q := fun e => n1 e.symm
    have n3 := HF.ne_cells 1 2 rfl rfl (by decide)
    have n4 : ¬ q = w1.heap.size := fun e => n3 e.symm
    replace HF := Lib.hid HF; replace HG := Lib.hid HG; replace HS := Lib.hid HS
    go_wp2_with fail
    exact bodyPost_ret (v := .agg #[.int .i64 x1, .string x2]) (by simp [results, Try.results73, go_sem, k8, z8]; try rfl) rfl ⟨rfl, (refA_shut hp2.out (refS_shut hp2.out.length_eq (HS.out.arrN [1, 2, 0] rfl))).drops 1⟩
end Go.Proofs.Ytiaefmmcakagpaa.Sift
