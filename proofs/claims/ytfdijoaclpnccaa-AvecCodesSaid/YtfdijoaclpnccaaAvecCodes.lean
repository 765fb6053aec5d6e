/- The walk of the statement AvecCodes. -/
import Derived.Test.YtfdijoaclpnccaaAvecGet
namespace Go.Proofs.Ytfdijoaclpnccaa.Avec
set_option linter.unusedSimpArgs false
set_option linter.unusedVariables false
open Go Go.RowKit Go.Proofs.Ytfdijoaclpnccaa Go.Proofs.Ytfdijoaclpnccaa.Circ
attribute [local irreducible] Calls

def putT (l : List Run) : List UInt8 := if checkL l = 0 then putL l else []
def getT (l : List UInt8) : List Run := if checkL (getL l) = 0 then getL l else []
theorem put_all (l : List Run) (n : Nat) (hl : l.length = n) (hn : n ≤ 1000000) (a : Option Addr) (cap : Nat) (w : World) (h : Rd w a (runs l)) :
    Calls Try.prog 60 #[.slice a n cap] w (Ret w (.tuple #[.string (txt (putT l)), .int .i64 (checkL l)])) := by
  by_cases hc : checkL l = 0
  · unfold putT
    rw [if_pos hc, hc]
    exact put_ok l n hl (by omega) a cap w h hc
  · unfold putT
    rw [if_neg hc]
    exact put_bad l n hl (by omega) a cap w h hc
theorem rput_all (l : List Run) (n : Nat) (hl : l.length = n) (hn : n ≤ 1000000) (a : Option Addr) (cap : Nat) (w : World) (h : Rd w a (runs l)) :
    Calls Try.prog 61 #[.slice a n cap] w (Ret w (.tuple #[.string (txt (putT l)), .int .i64 (checkL l)])) := by
  by_cases hc : checkL l = 0
  · unfold putT
    rw [if_pos hc, hc]
    exact rput_ok l n hl (by omega) a cap w h hc
  · unfold putT
    rw [if_neg hc]
    exact rput_bad l n hl (by omega) a cap w h hc
theorem got_all {s : ByteArray} {w w' : World} {v : Value} (h : if checkL (getL s.data.toList) = 0 then St w none0 w' [rowA 2 v s.size (runs (getL s.data.toList))] else v = .slice none 0 0 ∧ Below w.heap.size w w') :
    ∃ a cap, v = .slice a (getT s.data.toList).length cap ∧ Below w.heap.size w w' ∧ Rd w' a (runs (getT s.data.toList)) := by
  unfold getT
  by_cases hc : checkL (getL s.data.toList) = 0
  · rw [if_pos hc] at h ⊢
    obtain ⟨a, cap, rfl, _, _, R⟩ := (h.row 0 rfl).rd (by omega)
    exact ⟨a, cap, by simp [getL], h.below, R⟩
  · rw [if_neg hc] at h ⊢
    obtain ⟨rfl, hb⟩ := h
    exact ⟨none, 0, rfl, hb, .inl rfl⟩
theorem get_all (s : ByteArray) (hs : s.size ≤ 1000000) (w : World) :
    Calls Try.prog 62 #[.string s] w (fun e w' => ∃ a cap, e = .returned (.tuple #[.slice a (getT s.data.toList).length cap, .int .i64 (checkL (getL s.data.toList))]) ∧ Below w.heap.size w w' ∧ Rd w' a (runs (getT s.data.toList))) := by
  refine (get_any s hs w).mono ?_
  rintro e w' ⟨v, rfl, h⟩
  obtain ⟨a, cap, rfl, h1, h2⟩ := got_all h
  exact ⟨a, cap, rfl, h1, h2⟩
theorem rget_all (s : ByteArray) (hs : s.size ≤ 1000000) (w : World) :
    Calls Try.prog 63 #[.string s] w (fun e w' => ∃ a cap, e = .returned (.tuple #[.slice a (getT s.data.toList).length cap, .int .i64 (checkL (getL s.data.toList))]) ∧ Below w.heap.size w w' ∧ Rd w' a (runs (getT s.data.toList))) := by
  refine (get_ref s hs w).mono ?_
  rintro e w' ⟨v, rfl, h⟩
  obtain ⟨a, cap, rfl, h1, h2⟩ := got_all h
  exact ⟨a, cap, rfl, h1, h2⟩
theorem run_byteR {r : Run} (h1 : r.state = 0 ∨ r.state = 1 ∨ r.state = 3) (h2 : 1 ≤ r.many) (h3 : r.many ≤ 64) : runB (byteR r) = r := by
  have h := byteR_nat h1 h2 h3
  obtain ⟨s, m⟩ := r
  unfold runB
  rw [h]
  simp only at *
  congr 1 <;> omega
theorem byte_runB (c : UInt8) : byteR (runB c) = c := by
  unfold byteR runB
  simp only
  have : (64 * ((c.toNat : Int) / 64) + ((c.toNat : Int) % 64 + 1) - 1).toNat = c.toNat := by omega
  rw [this]
  simp
theorem get_put {l : List Run} (h : checkL l = 0) : getL (putT l) = l := by
  unfold putT getL putL
  rw [if_pos h, List.map_map]
  have hb0 : badL l = 0 := by
    unfold checkL at h
    split at h
    · assumption
    · exact h
  have hg := bad_zero hb0
  conv => rhs; rw [← List.map_id l]
  apply List.map_congr_left
  intro r hr
  obtain ⟨g1, g2, g3⟩ := hg r hr
  exact run_byteR g1 g2 g3
theorem put_get {L : List UInt8} (h : checkL (getL L) = 0) : putT (getT L) = L := by
  unfold getT
  rw [if_pos h]
  unfold putT
  rw [if_pos h]
  unfold putL getL
  rw [List.map_map]
  conv => rhs; rw [← List.map_id L]
  apply List.map_congr_left
  intro c _
  exact byte_runB c
theorem putT_len (l : List Run) : (putT l).length ≤ l.length := by
  unfold putT
  split
  · simp [putL]
  · simp
theorem getT_len (L : List UInt8) : (getT L).length ≤ L.length := by
  unfold getT
  split
  · simp [getL]
  · simp
theorem txt_list (l : List UInt8) : (txt l).data.toList = l := rfl
theorem txt_of (s : ByteArray) : txt s.data.toList = s := by
  apply ByteArray.ext
  simp [txt]
set_option maxRecDepth 100000 in
set_option maxHeartbeats 2000000 in
theorem codes_walk (a0 : Option Addr) (n cap0 : Nat) (s : ByteArray) (ws : s.size ≤ maxLen) (w : World) (h0 : Fits w (.slice 2 (.cons 1 (.int .i64) (.cons 1 (.int .i64) .nil))) [.slice a0 n cap0]) :
    Calls Try.prog 11 #[.slice a0 n cap0, .string s] w (Ret w (.bool true)) := by
  obtain ⟨hn, _, l, hl, _, hR⟩ := runs_in h0
  unfold maxLen at hn ws
  clear h0
  replace hR := Lib.hid hR; replace hl := Lib.hid hl
  go_enter Try.func11, Try.ntmps11
  go_wp2_with fail
  refine Calls.mono (works_law _) ?_
  rintro e w1 ⟨rfl, hb1⟩
  have z1 := Below.size hb1; try simp only [World.size_alloc, World.size_setCell, World.size_drew] at z1
  by_cases hx : 200 < n
  · have q0 : decide ((200 : Int) < (n : Int)) = true := decide_eq_true (by omega)
    go_wp2_with fail
    go_ret
    exact Ret.mk rfl (by repeat (first | with_reducible exact Below.refl _ _ | (with_reducible refine Below.al ?_) | (with_reducible refine Below.drew ?_) | (with_reducible refine Below.set ?_ (by first | (simp; done) | omega | (simp; omega))) | (with_reducible refine Below.thru ?_ (by assumption)) | (with_reducible refine Below.chg ?_ (by assumption) (by first | (simp; done) | omega | (simp; omega)))))
  have q0 : decide ((200 : Int) < (n : Int)) = false := decide_eq_false (by omega)
  by_cases hy : 500 < s.size
  · have q1 : decide ((500 : Int) < (s.size : Int)) = true := decide_eq_true (by omega)
    go_wp2_with fail
    go_ret
    exact Ret.mk rfl (by repeat (first | with_reducible exact Below.refl _ _ | (with_reducible refine Below.al ?_) | (with_reducible refine Below.drew ?_) | (with_reducible refine Below.set ?_ (by first | (simp; done) | omega | (simp; omega))) | (with_reducible refine Below.thru ?_ (by assumption)) | (with_reducible refine Below.chg ?_ (by assumption) (by first | (simp; done) | omega | (simp; omega)))))
  have q1 : decide ((500 : Int) < (s.size : Int)) = false := decide_eq_false (by omega)
  have P1 := put_all l n hl.out (by omega) a0 cap0 w1 (hR.out.below hb1)
  obtain ⟨t, ht⟩ : ∃ t, t = txt (putT l) := ⟨_, rfl⟩
  obtain ⟨e, he⟩ : ∃ e, e = checkL l := ⟨_, rfl⟩
  obtain ⟨L, hL⟩ : ∃ L, L = s.data.toList := ⟨_, rfl⟩
  obtain ⟨g, hg⟩ : ∃ g, g = checkL (getL L) := ⟨_, rfl⟩
  obtain ⟨M, hM⟩ : ∃ M, M = getT L := ⟨_, rfl⟩
  have htl : t.data.toList = putT l := by rw [ht, txt_list]
  have hts : t.size ≤ 1000000 := by
    have := putT_len l
    rw [ht, txt_size]
    have := hl.out
    omega
  have hMl : M.length ≤ 1000000 := by
    have h1 := getT_len L
    have h2 : L.length = s.size := by rw [hL]; simp
    rw [hM]
    omega
  have C1 := fun W hW => check_any l n hl.out (by omega) a0 cap0 W hW
  have C2 := fun W hW => rcheck_any l n hl.out (by omega) a0 cap0 W hW
  have M1 := fun W hW => many_any l n hl.out (by omega) a0 cap0 W hW
  have M2 := fun W hW => rmany_any l n hl.out (by omega) a0 cap0 W hW
  rw [← ht, ← he] at P1
  rw [← he] at C1 C2
  replace P1 := Lib.hid P1
  generalize hmL : manyL l = mL at *
  replace C1 := Lib.hid C1; replace C2 := Lib.hid C2; replace M1 := Lib.hid M1; replace M2 := Lib.hid M2; replace ht := Lib.hid ht; replace he := Lib.hid he; replace hL := Lib.hid hL; replace hg := Lib.hid hg; replace hM := Lib.hid hM; replace htl := Lib.hid htl; replace hts := Lib.hid hts; replace hMl := Lib.hid hMl; replace hmL := Lib.hid hmL
  go_wp2_with fail
  refine Calls.mono (P1.out) ?_
  rintro e w2 ⟨rfl, hb2⟩
  have z2 := Below.size hb2; try simp only [World.size_alloc, World.size_setCell, World.size_drew] at z2
  clear P1
  have R2 := (hR.out.below hb1).below hb2
  have P2 := rput_all l n hl.out (by omega) a0 cap0 w2 R2
  rw [← ht.out, ← he.out] at P2
  replace P2 := Lib.hid P2; replace R2 := Lib.hid R2
  go_wp2_with fail
  refine Calls.mono (P2.out) ?_
  rintro e w3 ⟨rfl, hb3⟩
  have z3 := Below.size hb3; try simp only [World.size_alloc, World.size_setCell, World.size_drew] at z3
  clear P2
  have R3 := R2.out.below hb3
  have P3 := get_all s (by omega) w3
  rw [← hL.out, ← hg.out, ← hM.out] at P3
  replace P3 := Lib.hid P3; replace R3 := Lib.hid R3
  go_wp2_with fail
  refine Calls.mono P3.out ?_
  rintro e4 w4 ⟨a4, c4, rfl, hb4, RM4⟩
  clear P3 R2
  have R4 := R3.out.below hb4
  have P4 := rget_all s (by omega) w4
  rw [← hL.out, ← hg.out, ← hM.out] at P4
  replace P4 := Lib.hid P4; replace R4 := Lib.hid R4; replace RM4 := Lib.hid RM4
  go_wp2_with fail
  refine Calls.mono P4.out ?_
  rintro e5 w5 ⟨a5, c5, rfl, hb5, RM5⟩
  clear P4 R3
  have R5 := R4.out.below hb5
  replace RM4 := RM4.out.below hb5
  have P5 := get_all t hts.out w5
  rw [htl.out] at P5
  obtain ⟨O, hO⟩ : ∃ O, O = getT (putT l) := ⟨_, rfl⟩
  obtain ⟨i, hi⟩ : ∃ i, i = checkL (getL (putT l)) := ⟨_, rfl⟩
  rw [← hO, ← hi] at P5
  replace P5 := Lib.hid P5; replace R5 := Lib.hid R5; replace RM4 := Lib.hid RM4; replace RM5 := Lib.hid RM5; replace hO := Lib.hid hO; replace hi := Lib.hid hi
  clear R4
  go_wp2_with fail
  refine Calls.mono P5.out ?_
  rintro e6 w6 ⟨a6, c6, rfl, hb6, RO6⟩
  clear P5
  have R6 := R5.out.below hb6
  replace RM4 := RM4.out.below hb6
  replace RM5 := RM5.out.below hb6
  have P6 := put_all M _ rfl hMl.out a4 c4 w6 RM4
  obtain ⟨p, hp⟩ : ∃ p, p = txt (putT M) := ⟨_, rfl⟩
  obtain ⟨j, hj⟩ : ∃ j, j = checkL M := ⟨_, rfl⟩
  rw [← hp, ← hj] at P6
  replace P6 := Lib.hid P6; replace R6 := Lib.hid R6; replace RM4 := Lib.hid RM4; replace RM5 := Lib.hid RM5; replace RO6 := Lib.hid RO6; replace hp := Lib.hid hp; replace hj := Lib.hid hj
  clear R5
  go_wp2_with fail
  refine Calls.mono (P6.out) ?_
  rintro e w7 ⟨rfl, hb7⟩
  have z7 := Below.size hb7; try simp only [World.size_alloc, World.size_setCell, World.size_drew] at z7
  clear P6
  have R7 := R6.out.below hb7
  have RO7 := RO6.out.below hb7
  have S1 := same_any M _ rfl (by have := hMl.out; unfold maxLen; omega) a4 c4 a5 c5 w7 (RM4.out.below hb7) (RM5.out.below hb7)
  clear R6 RO6 RM4 RM5
  have HE : e = 0 → i = 0 ∧ O = l := fun h => by
    have h1 : checkL l = 0 := by rw [← he.out]; exact h
    have h2 := get_put h1
    refine ⟨by rw [hi.out, h2]; exact h1, ?_⟩
    rw [hO.out]
    unfold getT
    rw [h2, if_pos h1]
  have HG : g = 0 → j = 0 ∧ p = s := fun h => by
    have h1 : checkL (getL L) = 0 := by rw [← hg.out]; exact h
    have h2 : M = getL L := by rw [hM.out]; unfold getT; rw [if_pos h1]
    refine ⟨by rw [hj.out, h2]; exact h1, ?_⟩
    rw [hp.out, hM.out, put_get h1, hL.out, txt_of]
  have z6 := hb6.size
  have z5 := hb5.size
  have z4 := hb4.size
  have hbb : Below w.heap.size w w7 := (((((hb1.trans (hb2.mono z1)).trans (hb3.mono (by omega))).trans (hb4.mono (by omega))).trans (hb5.mono (by omega))).trans (hb6.mono (by omega))).trans (hb7.mono (by omega))
  clear hb1 hb2 hb3 hb4 hb5 hb6 hb7 hR
  replace S1 := Lib.hid S1; replace R7 := Lib.hid R7; replace RO7 := Lib.hid RO7; replace hbb := Lib.hid hbb
  by_cases e0 : e = 0
  · obtain ⟨i0, O0⟩ := HE e0
    subst e0
    subst i0
    subst O0
    clear HE
    by_cases g0 : g = 0
    · obtain ⟨j0, p0⟩ := HG g0
      subst g0
      subst j0
      subst p0
      clear HG
      go_wp2_with fail
      refine Calls.mono (S1.out) ?_
      rintro e w8 ⟨rfl, hb8⟩
      have z8 := Below.size hb8; try simp only [World.size_alloc, World.size_setCell, World.size_drew] at z8
      clear S1
      have R8 := R7.out.below hb8
      have D1 := C1.out w8 R8
      replace D1 := Lib.hid D1; replace R8 := Lib.hid R8
      go_wp2_with fail
      refine Calls.mono (D1.out) ?_
      rintro e w9 ⟨rfl, hb9⟩
      have z9 := Below.size hb9; try simp only [World.size_alloc, World.size_setCell, World.size_drew] at z9
      clear D1 R7
      have R9 := R8.out.below hb9
      have D2 := C2.out w9 R9
      replace D2 := Lib.hid D2; replace R9 := Lib.hid R9
      go_wp2_with fail
      refine Calls.mono (D2.out) ?_
      rintro e w10 ⟨rfl, hb10⟩
      have z10 := Below.size hb10; try simp only [World.size_alloc, World.size_setCell, World.size_drew] at z10
      clear D2 R8
      have RA := R9.out.below hb10
      have D3 := M1.out w10 RA
      replace D3 := Lib.hid D3; replace RA := Lib.hid RA
      go_wp2_with fail
      refine Calls.mono (D3.out) ?_
      rintro e w11 ⟨rfl, hb11⟩
      have z11 := Below.size hb11; try simp only [World.size_alloc, World.size_setCell, World.size_drew] at z11
      clear D3 R9
      have RB := RA.out.below hb11
      have D4 := M2.out w11 RB
      replace D4 := Lib.hid D4; replace RB := Lib.hid RB
      go_wp2_with fail
      refine Calls.mono (D4.out) ?_
      rintro e w12 ⟨rfl, hb12⟩
      have z12 := Below.size hb12; try simp only [World.size_alloc, World.size_setCell, World.size_drew] at z12
      clear D4 RA
      have RC := RB.out.below hb12
      have RO := ((((RO7.out.below hb8).below hb9).below hb10).below hb11).below hb12
      have hbc : Below w.heap.size w w12 := ((((hbb.out.trans (hb8.mono hbb.out.size)).trans (hb9.mono (by have := hbb.out.size; omega))).trans (hb10.mono (by have := hbb.out.size; omega))).trans (hb11.mono (by have := hbb.out.size; omega))).trans (hb12.mono (by have := hbb.out.size; omega))
      clear hb8 hb9 hb10 hb11 hb12 RB RO7
      replace RC := Lib.hid RC; replace RO := Lib.hid RO; replace hbc := Lib.hid hbc
      have D5 := same_any O n hl.out (by unfold maxLen; omega) a0 cap0 a6 c6 w12 RC.out RO.out
      have hOn : O.length = n := hl.out
      replace D5 := Lib.hid D5
      rw [hOn]
      go_wp2_with fail
      refine Calls.mono (D5.out) ?_
      rintro e w13 ⟨rfl, hb13⟩
      have z13 := Below.size hb13; try simp only [World.size_alloc, World.size_setCell, World.size_drew] at z13
      have hbd := hbc.out.trans (hb13.mono hbc.out.size)
      replace hbd := Lib.hid hbd
      clear D5
      go_wp2_with fail
      go_ret
      exact Ret.mk rfl hbd.out
    · have qg : (g == 0) = false := by simpa using g0
      have qg' : (g != 0) = true := by simpa using g0
      clear HG
      replace g0 := Lib.hid g0
      go_wp2_with fail
      refine Calls.mono (S1.out) ?_
      rintro e w8 ⟨rfl, hb8⟩
      have z8 := Below.size hb8; try simp only [World.size_alloc, World.size_setCell, World.size_drew] at z8
      clear S1
      have R8 := R7.out.below hb8
      have D1 := C1.out w8 R8
      replace D1 := Lib.hid D1; replace R8 := Lib.hid R8
      go_wp2_with fail
      refine Calls.mono (D1.out) ?_
      rintro e w9 ⟨rfl, hb9⟩
      have z9 := Below.size hb9; try simp only [World.size_alloc, World.size_setCell, World.size_drew] at z9
      clear D1 R7
      have R9 := R8.out.below hb9
      have D2 := C2.out w9 R9
      replace D2 := Lib.hid D2; replace R9 := Lib.hid R9
      go_wp2_with fail
      refine Calls.mono (D2.out) ?_
      rintro e w10 ⟨rfl, hb10⟩
      have z10 := Below.size hb10; try simp only [World.size_alloc, World.size_setCell, World.size_drew] at z10
      clear D2 R8
      have RA := R9.out.below hb10
      have D3 := M1.out w10 RA
      replace D3 := Lib.hid D3; replace RA := Lib.hid RA
      go_wp2_with fail
      refine Calls.mono (D3.out) ?_
      rintro e w11 ⟨rfl, hb11⟩
      have z11 := Below.size hb11; try simp only [World.size_alloc, World.size_setCell, World.size_drew] at z11
      clear D3 R9
      have RB := RA.out.below hb11
      have D4 := M2.out w11 RB
      replace D4 := Lib.hid D4; replace RB := Lib.hid RB
      go_wp2_with fail
      refine Calls.mono (D4.out) ?_
      rintro e w12 ⟨rfl, hb12⟩
      have z12 := Below.size hb12; try simp only [World.size_alloc, World.size_setCell, World.size_drew] at z12
      clear D4 RA
      have RC := RB.out.below hb12
      have RO := ((((RO7.out.below hb8).below hb9).below hb10).below hb11).below hb12
      have hbc : Below w.heap.size w w12 := ((((hbb.out.trans (hb8.mono hbb.out.size)).trans (hb9.mono (by have := hbb.out.size; omega))).trans (hb10.mono (by have := hbb.out.size; omega))).trans (hb11.mono (by have := hbb.out.size; omega))).trans (hb12.mono (by have := hbb.out.size; omega))
      clear hb8 hb9 hb10 hb11 hb12 RB RO7
      replace RC := Lib.hid RC; replace RO := Lib.hid RO; replace hbc := Lib.hid hbc
      have D5 := same_any O n hl.out (by unfold maxLen; omega) a0 cap0 a6 c6 w12 RC.out RO.out
      have hOn : O.length = n := hl.out
      replace D5 := Lib.hid D5
      rw [hOn]
      go_wp2_with fail
      refine Calls.mono (D5.out) ?_
      rintro e w13 ⟨rfl, hb13⟩
      have z13 := Below.size hb13; try simp only [World.size_alloc, World.size_setCell, World.size_drew] at z13
      have hbd := hbc.out.trans (hb13.mono hbc.out.size)
      replace hbd := Lib.hid hbd
      clear D5
      go_wp2_with fail
      go_ret
      exact Ret.mk rfl hbd.out
  · have qe : (e == 0) = false := by simpa using e0
    have qe' : (e != 0) = true := by simpa using e0
    clear HE
    replace e0 := Lib.hid e0
    by_cases g0 : g = 0
    · obtain ⟨j0, p0⟩ := HG g0
      subst g0
      subst j0
      subst p0
      clear HG
      go_wp2_with fail
      refine Calls.mono (S1.out) ?_
      rintro e w8 ⟨rfl, hb8⟩
      have z8 := Below.size hb8; try simp only [World.size_alloc, World.size_setCell, World.size_drew] at z8
      clear S1
      have R8 := R7.out.below hb8
      have D1 := C1.out w8 R8
      replace D1 := Lib.hid D1; replace R8 := Lib.hid R8
      go_wp2_with fail
      refine Calls.mono (D1.out) ?_
      rintro e w9 ⟨rfl, hb9⟩
      have z9 := Below.size hb9; try simp only [World.size_alloc, World.size_setCell, World.size_drew] at z9
      clear D1 R7
      have R9 := R8.out.below hb9
      have D2 := C2.out w9 R9
      replace D2 := Lib.hid D2; replace R9 := Lib.hid R9
      go_wp2_with fail
      refine Calls.mono (D2.out) ?_
      rintro e w10 ⟨rfl, hb10⟩
      have z10 := Below.size hb10; try simp only [World.size_alloc, World.size_setCell, World.size_drew] at z10
      clear D2 R8
      have RA := R9.out.below hb10
      have D3 := M1.out w10 RA
      replace D3 := Lib.hid D3; replace RA := Lib.hid RA
      go_wp2_with fail
      refine Calls.mono (D3.out) ?_
      rintro e w11 ⟨rfl, hb11⟩
      have z11 := Below.size hb11; try simp only [World.size_alloc, World.size_setCell, World.size_drew] at z11
      clear D3 R9
      have RB := RA.out.below hb11
      have D4 := M2.out w11 RB
      replace D4 := Lib.hid D4; replace RB := Lib.hid RB
      go_wp2_with fail
      refine Calls.mono (D4.out) ?_
      rintro e w12 ⟨rfl, hb12⟩
      have z12 := Below.size hb12; try simp only [World.size_alloc, World.size_setCell, World.size_drew] at z12
      clear D4 RA
      have RC := RB.out.below hb12
      have RO := ((((RO7.out.below hb8).below hb9).below hb10).below hb11).below hb12
      have hbc : Below w.heap.size w w12 := ((((hbb.out.trans (hb8.mono hbb.out.size)).trans (hb9.mono (by have := hbb.out.size; omega))).trans (hb10.mono (by have := hbb.out.size; omega))).trans (hb11.mono (by have := hbb.out.size; omega))).trans (hb12.mono (by have := hbb.out.size; omega))
      clear hb8 hb9 hb10 hb11 hb12 RB RO7
      replace RC := Lib.hid RC; replace RO := Lib.hid RO; replace hbc := Lib.hid hbc
      go_wp2_with fail
      go_ret
      exact Ret.mk rfl hbc.out
    · have qg : (g == 0) = false := by simpa using g0
      have qg' : (g != 0) = true := by simpa using g0
      clear HG
      replace g0 := Lib.hid g0
      go_wp2_with fail
      refine Calls.mono (S1.out) ?_
      rintro e w8 ⟨rfl, hb8⟩
      have z8 := Below.size hb8; try simp only [World.size_alloc, World.size_setCell, World.size_drew] at z8
      clear S1
      have R8 := R7.out.below hb8
      have D1 := C1.out w8 R8
      replace D1 := Lib.hid D1; replace R8 := Lib.hid R8
      go_wp2_with fail
      refine Calls.mono (D1.out) ?_
      rintro e w9 ⟨rfl, hb9⟩
      have z9 := Below.size hb9; try simp only [World.size_alloc, World.size_setCell, World.size_drew] at z9
      clear D1 R7
      have R9 := R8.out.below hb9
      have D2 := C2.out w9 R9
      replace D2 := Lib.hid D2; replace R9 := Lib.hid R9
      go_wp2_with fail
      refine Calls.mono (D2.out) ?_
      rintro e w10 ⟨rfl, hb10⟩
      have z10 := Below.size hb10; try simp only [World.size_alloc, World.size_setCell, World.size_drew] at z10
      clear D2 R8
      have RA := R9.out.below hb10
      have D3 := M1.out w10 RA
      replace D3 := Lib.hid D3; replace RA := Lib.hid RA
      go_wp2_with fail
      refine Calls.mono (D3.out) ?_
      rintro e w11 ⟨rfl, hb11⟩
      have z11 := Below.size hb11; try simp only [World.size_alloc, World.size_setCell, World.size_drew] at z11
      clear D3 R9
      have RB := RA.out.below hb11
      have D4 := M2.out w11 RB
      replace D4 := Lib.hid D4; replace RB := Lib.hid RB
      go_wp2_with fail
      refine Calls.mono (D4.out) ?_
      rintro e w12 ⟨rfl, hb12⟩
      have z12 := Below.size hb12; try simp only [World.size_alloc, World.size_setCell, World.size_drew] at z12
      clear D4 RA
      have RC := RB.out.below hb12
      have RO := ((((RO7.out.below hb8).below hb9).below hb10).below hb11).below hb12
      have hbc : Below w.heap.size w w12 := ((((hbb.out.trans (hb8.mono hbb.out.size)).trans (hb9.mono (by have := hbb.out.size; omega))).trans (hb10.mono (by have := hbb.out.size; omega))).trans (hb11.mono (by have := hbb.out.size; omega))).trans (hb12.mono (by have := hbb.out.size; omega))
      clear hb8 hb9 hb10 hb11 hb12 RB RO7
      replace RC := Lib.hid RC; replace RO := Lib.hid RO; replace hbc := Lib.hid hbc
      go_wp2_with fail
      go_ret
      exact Ret.mk rfl hbc.out
end Go.Proofs.Ytfdijoaclpnccaa.Avec
