/- The answer At of avec; the walk of the statement AvecEach. -/
import Derived.Test.YtfdijoaclpnccaaAvecEach
namespace Go.Proofs.Ytfdijoaclpnccaa.Avec
set_option linter.unusedSimpArgs false
set_option linter.unusedVariables false
open Go Go.RowKit Go.Proofs.Ytfdijoaclpnccaa Go.Proofs.Ytfdijoaclpnccaa.Circ
attribute [local irreducible] Calls

set_option maxRecDepth 100000 in
set_option maxHeartbeats 400000 in
theorem rat_any (f s x : Int) (l : List Run) (n : Nat) (hn : l.length = n) (hb : n ≤ 1000000) (a : Option Addr) (cap : Nat) (w : World) (h : Rd w a (runs l))
    (h1 : ∀ j (hj : j < (statesL l).length), ofC (f - j) = ofC s → (∀ k : Nat, k < j → ofC (f - k) ≠ ofC s) → x = (statesL l)[j]) (h2 : (∀ j, j < (statesL l).length → ofC (f - j) ≠ ofC s) → x = 3) :
    Calls Try.prog 42 #[.int .i64 f, .slice a n cap, .int .i64 s] w (Ret w (.int .i64 x)) := by
  have P := fun W hW => states_ref l n hn hb a cap W hW
  have hL : (statesL l).length ≤ 64 * n := by rw [← hn]; exact states_len l
  replace P := P w h
  clear h hn
  generalize statesL l = L at *
  have hfo : ∀ j : Nat, j < L.length → ofC (ofC f - j) = ofC (f - j) := fun j _ => by unfold ofC; omega
  obtain ⟨c0, c1⟩ := ofC_bd f
  replace P := Lib.hid P; replace h1 := Lib.hid h1; replace h2 := Lib.hid h2; replace hfo := Lib.hid hfo
  go_enter Try.func42, Try.ntmps42
  go_wp2_with fail
  refine Calls.mono P.out ?_
  rintro e w1 ⟨v, rfl, H1⟩
  clear P
  obtain ⟨a1, cap1, rfl, hm1, _, R1⟩ := (H1.row 0 rfl).rd (by omega)
  unfold maxLen at hm1
  have hbw := H1.below
  clear H1
  replace R1 := Lib.hid R1
  go_wp2_with fail
  go_loopg [8] L.length (fun gg i wr => ∃ j : Nat, j ≤ L.length ∧ gg = L.length - j ∧ i = .int .i64 j ∧ Hid (∀ q, q < j → ofC (f - q) ≠ ofC s) ∧ Below w1.heap.size w1 wr)
  case atStart => exact ⟨0, by omega, by omega, rfl, (fun q hq => by omega), (by repeat (first | with_reducible exact Below.refl _ _ | (with_reducible refine Below.al ?_) | (with_reducible refine Below.drew ?_) | (with_reducible refine Below.set ?_ (by first | (simp; done) | omega | (simp; omega))) | (with_reducible refine Below.thru ?_ (by assumption)) | (with_reducible refine Below.chg ?_ (by assumption) (by first | (simp; done) | omega | (simp; omega)))))⟩
  case round =>
    obtain ⟨j, hj, hg, rfl, hno, hbr⟩ := hrel
    by_cases hlt : j < L.length
    · obtain ⟨b, off, rfl, hb2, hc⟩ := ints_cell (R1.out.below hbr) rfl (by omega)
      have e0 := hc j hlt
      have ef := hfo.out j hlt
      have E0 := fun W => rof_any f W
      have E1 := fun W => rof_any (ofC f - j) W
      have E2 := fun W => rof_any s W
      rw [ef] at E1
      clear hc ef
      by_cases hq : ofC (f - j) = ofC s
      · have hx := h1.out j hlt hq (fun k hk => hno.out k hk)
        rw [← hx] at e0
        have q : (ofC (f - j) == ofC s) = true := by simpa using hq
        generalize ofC (f - j) = y at *
        generalize ofC s = y2 at *
        replace E0 := Lib.hid E0; replace E1 := Lib.hid E1; replace E2 := Lib.hid E2; replace hq := Lib.hid hq; replace hx := Lib.hid hx
        go_wp2_with fail
        refine Calls.mono (E0.out _) ?_
        rintro e w1 ⟨rfl, hb1⟩
        have z1 := Below.size hb1; try simp only [World.size_alloc, World.size_setCell, World.size_drew] at z1
        obtain ⟨c1_0, f1_0⟩ := Below.blk hb1 (b := b) (by first | (simp; done) | omega | (simp; omega))
        have z1_0 : b < w1.heap.size := (by first | (simp; done) | omega | (simp; omega))
        go_wp2_with fail
        refine Calls.mono (E1.out _) ?_
        rintro e w2 ⟨rfl, hb2⟩
        have z2 := Below.size hb2; try simp only [World.size_alloc, World.size_setCell, World.size_drew] at z2
        obtain ⟨c2_0, f2_0⟩ := Below.blk hb2 (b := b) (by first | (simp; done) | omega | (simp; omega))
        have z2_0 : b < w2.heap.size := (by first | (simp; done) | omega | (simp; omega))
        go_wp2_with fail
        refine Calls.mono (E2.out _) ?_
        rintro e w3 ⟨rfl, hb3⟩
        have z3 := Below.size hb3; try simp only [World.size_alloc, World.size_setCell, World.size_drew] at z3
        obtain ⟨c3_0, f3_0⟩ := Below.blk hb3 (b := b) (by first | (simp; done) | omega | (simp; omega))
        have z3_0 : b < w3.heap.size := (by first | (simp; done) | omega | (simp; omega))
        clear E0 E1 E2
        go_wp2_with fail
        go_ret
        exact Ret.mk rfl (by repeat (first | with_reducible exact Below.refl _ _ | (with_reducible refine Below.al ?_) | (with_reducible refine Below.drew ?_) | (with_reducible refine Below.set ?_ (by first | (simp; done) | omega | (simp; omega))) | (with_reducible refine Below.thru ?_ (by assumption)) | (with_reducible refine Below.chg ?_ (by assumption) (by first | (simp; done) | omega | (simp; omega)))))
      · have q : (ofC (f - j) == ofC s) = false := by simpa using hq
        have hno' : ∀ q, q < j + 1 → ofC (f - q) ≠ ofC s := fun q hq2 => by
          by_cases e : q = j
          · subst e; exact hq
          · exact hno.out q (by omega)
        generalize hy : ofC (f - j) = y at *
        generalize hy2 : ofC s = y2 at *
        replace E0 := Lib.hid E0; replace E1 := Lib.hid E1; replace E2 := Lib.hid E2; replace hq := Lib.hid hq; replace hno' := Lib.hid hno'; replace hy := Lib.hid hy; replace hy2 := Lib.hid hy2
        go_wp2_with fail
        refine Calls.mono (E0.out _) ?_
        rintro e w1 ⟨rfl, hb1⟩
        have z1 := Below.size hb1; try simp only [World.size_alloc, World.size_setCell, World.size_drew] at z1
        obtain ⟨c1_0, f1_0⟩ := Below.blk hb1 (b := b) (by first | (simp; done) | omega | (simp; omega))
        have z1_0 : b < w1.heap.size := (by first | (simp; done) | omega | (simp; omega))
        go_wp2_with fail
        refine Calls.mono (E1.out _) ?_
        rintro e w2 ⟨rfl, hb2⟩
        have z2 := Below.size hb2; try simp only [World.size_alloc, World.size_setCell, World.size_drew] at z2
        obtain ⟨c2_0, f2_0⟩ := Below.blk hb2 (b := b) (by first | (simp; done) | omega | (simp; omega))
        have z2_0 : b < w2.heap.size := (by first | (simp; done) | omega | (simp; omega))
        go_wp2_with fail
        refine Calls.mono (E2.out _) ?_
        rintro e w3 ⟨rfl, hb3⟩
        have z3 := Below.size hb3; try simp only [World.size_alloc, World.size_setCell, World.size_drew] at z3
        obtain ⟨c3_0, f3_0⟩ := Below.blk hb3 (b := b) (by first | (simp; done) | omega | (simp; omega))
        have z3_0 : b < w3.heap.size := (by first | (simp; done) | omega | (simp; omega))
        clear E0 E1 E2
        go_wp2_with fail
        go_roundg (L.length - (j + 1))
        case measure => omega
        case rel => exact ⟨j + 1, by omega, rfl, by go_num, hno', (by repeat (first | with_reducible exact Below.refl _ _ | (with_reducible refine Below.al ?_) | (with_reducible refine Below.drew ?_) | (with_reducible refine Below.set ?_ (by first | (simp; done) | omega | (simp; omega))) | (with_reducible refine Below.thru ?_ (by assumption)) | (with_reducible refine Below.chg ?_ (by assumption) (by first | (simp; done) | omega | (simp; omega)))))⟩
    · obtain rfl : j = L.length := by omega
      have hx := h2.out (fun q hq => hno.out q hq)
      replace hx := Lib.hid hx
      go_wp2_with fail
      go_ret
      exact Ret.mk (congrArg (Value.int .i64) hx.out.symm) (by repeat (first | with_reducible exact Below.refl _ _ | (with_reducible refine Below.al ?_) | (with_reducible refine Below.drew ?_) | (with_reducible refine Below.set ?_ (by first | (simp; done) | omega | (simp; omega))) | (with_reducible refine Below.thru ?_ (by assumption)) | (with_reducible refine Below.chg ?_ (by assumption) (by first | (simp; done) | omega | (simp; omega)))))

theorem find_at (f s : Int) (R : List Run) : (∀ j (hj : j < (statesL R).length), ofC (f - j) = ofC s → (∀ k : Nat, k < j → ofC (f - k) ≠ ofC s) → findV (eachL f R) (ofC s) = (statesL R)[j]) ∧
    ((∀ j, j < (statesL R).length → ofC (f - j) ≠ ofC s) → findV (eachL f R) (ofC s) = 3) := by
  constructor
  · intro j hj he hno
    obtain ⟨h1, _⟩ := each_split (f := f) (List.getElem?_eq_getElem hj)
    exact find_hit h1 (by
      intro y hy
      obtain ⟨k, hk, rfl⟩ := List.getElem_of_mem hy
      rw [List.length_take, each_len] at hk
      simp only [List.getElem_take, eachL, List.getElem_mapIdx]
      exact hno k (by omega)) he
  · intro hno
    refine find_none ?_
    intro y hy
    obtain ⟨k, hk, rfl⟩ := List.getElem_of_mem hy
    rw [each_len] at hk
    simp only [eachL, List.getElem_mapIdx]
    exact hno k hk

theorem below_of {w w' : World} {S : Nat → Prop} {B : Nat} (h : Only w w' S) (hS : ∀ b, S b → B ≤ b) (hB : B ≤ w.heap.size) : Below B w w' :=
  ⟨h.os, h.tape, h.output, h.size, fun b hb => h.block b (by omega) (fun hs => by have := hS b hs; omega)⟩
set_option maxRecDepth 100000 in
set_option maxHeartbeats 1000000 in
theorem each_walk (a0 : Int) (w0 : (Lit.int .i64 a0).wf = true) (a1 : Option Addr) (n cap1 : Nat) (a2 : Int) (w2 : (Lit.int .i64 a2).wf = true) (a3 : Int) (w3 : (Lit.int .i64 a3).wf = true) (w : World) (h1 : Fits w (.slice 2 (.cons 1 (.int .i64) (.cons 1 (.int .i64) .nil))) [.slice a1 n cap1]) :
    Calls Try.prog 9 #[.int .i64 a0, .slice a1 n cap1, .int .i64 a2, .int .i64 a3] w (Ret w (.bool true)) := by
  obtain ⟨hn, _, R, hl, _, hR⟩ := runs_in h1
  unfold maxLen at hn
  clear h1
  have H0 := ((St.zero w).alloc [.int .i64 a0] 3).alloc [.int .i64 a3] 3
  simp only [World.size_alloc] at H0
  replace hR := Lib.hid hR; replace hl := Lib.hid hl; replace H0 := Lib.hid H0
  go_enter Try.func9, Try.ntmps9
  go_wp2_with fail
  refine Calls.mono (works_law _) ?_
  rintro e w1 ⟨rfl, hb1⟩
  have z1 := Below.size hb1; try simp only [World.size_alloc, World.size_setCell, World.size_drew] at z1
  have H1 := H0.out.thru hb1
  obtain ⟨zf, cf, ff⟩ := H1.box 1 rfl
  obtain ⟨zm, cm, fm⟩ := H1.box 0 rfl
  clear H0
  by_cases h5 : n ≤ 50
  · have q0 : decide ((50 : Int) < (n : Int)) = false := decide_eq_false (by omega)
    have P1 := states_ref R n hl.out (by omega) a1 cap1 w1 (hR.out.below H1.below)
    replace P1 := Lib.hid P1; replace H1 := Lib.hid H1
    go_wp2_with fail
    refine Calls.mono P1.out ?_
    rintro e wa ⟨v, rfl, Ha⟩
    obtain ⟨ax, cx, rfl, hmx, _, _⟩ := (Ha.row 0 rfl).rd (by omega)
    have Hb := ((H1.out.add Ha).alloc [.slice ax (statesL R).length cx] 71)
    have Hc := (Hb.alloc [.int .i64 0] 3).alloc [.bool true] 4
    simp only [World.size_alloc, List.cons_append, List.nil_append] at Hc
    obtain ⟨zf2, cf2, ff2⟩ := Hc.box 5 rfl
    clear P1 H1 Ha Hb cf ff cm fm
    replace Hc := Lib.hid Hc
    go_wp2_with fail
    refine Calls.mono (each_new a0 a1 n cap1 _) ?_
    rintro e wb ⟨b1, b2, rfl, Hd⟩
    have He := (Hc.out.add Hd).arr [2, 3, 4, 5, 7, 6, 0, 1] rfl
    have Hf := (tell_shut (bo := wa.heap.size + 1 + 1) (bn := wa.heap.size + 1) (bw := wa.heap.size) (bf := w.heap.size) (bm := w.heap.size + 1) (t := 0) He).arr [1, 2, 0] rfl
    have nf := run_neq_func (P := Try.prog) 76 (by kernel_rfl) (.func 91) #[] #[.pointer (some ⟨b1, 0, none⟩), .pointer (some ⟨b2, 0, none⟩)]
    have nf2 := run_eql_func (P := Try.prog) 76 (by kernel_rfl) (.func 91) #[] #[.pointer (some ⟨b1, 0, none⟩), .pointer (some ⟨b2, 0, none⟩)]
    have Hg := Hf.all
    obtain ⟨S1, hS1, hold, cS⟩ := Hg.at 0 rfl
    have zb : w.heap.size ≤ wb.heap.size := Hg.size
    have P2 := each_tell b1 b2 (wa.heap.size + 1 + 1) (wa.heap.size + 1) wa.heap.size w.heap.size (w.heap.size + 1) a0 a3 R n cap1 hl.out (by omega) a1 wb S1 hS1 (fun w' l h => hR.out.below (Hg.below.trans (below_of h.only (fun b hb => (hold b hb).resolve_left id) zb)))
    clear Hc Hd He Hf Hg hS1 cf2
    replace P2 := Lib.hid P2; replace cS := Lib.hid cS
    go_wp2_with fail
    refine Calls.mono P2.out ?_
    rintro e wc ⟨⟨v2, rfl⟩, Hh⟩
    obtain ⟨T, hT⟩ : ∃ T, T = min (statesL R).length (max a3 1).toNat := ⟨_, rfl⟩
    rw [← hT] at Hh
    have Hi : St w none0 wc [tellA (wa.heap.size + 1 + 1) (wa.heap.size + 1) wa.heap.size w.heap.size (w.heap.size + 1) a0 a3 (statesL R) T, cellA b1 [.int .i64 a0], cellA b2 [.slice a1 n cap1]] := cS.out _ _ Hh
    obtain ⟨ay, cy, Hj⟩ := tell_parts Hi
    have hbc := Hi.below
    obtain ⟨z1, k1, f1⟩ := Hj.box 0 rfl
    obtain ⟨z2, k2, f2⟩ := Hj.box 1 rfl
    obtain ⟨z3, k3, f3⟩ := Hj.box 2 rfl
    obtain ⟨z4, k4, f4⟩ := Hj.box 4 rfl
    obtain ⟨z5, k5, f5⟩ := Hj.box 5 rfl
    have qT : min ((statesL R).length : Int) (max a3 1) = (T : Int) := by omega
    have RC := hR.out.below hbc
    have A1 : ∀ s : Near wc.heap.size wc, Calls Try.prog 52 #[.int .i64 a0, .slice a1 n cap1, .int .i64 a2] s.it (Ret s.it (.int .i64 (findV (eachL a0 R) (ofC a2)))) := fun s => at_any a0 a2 R n cap1 hl.out (by omega) a1 s.it (RC.below s.near)
    obtain ⟨fa1, fa2⟩ := find_at a0 a2 R
    have A2 : ∀ s : Near wc.heap.size wc, Calls Try.prog 42 #[.int .i64 a0, .slice a1 n cap1, .int .i64 a2] s.it (Ret s.it (.int .i64 (findV (eachL a0 R) (ofC a2)))) := fun s => rat_any a0 a2 _ R n hl.out (by omega) a1 cap1 s.it (RC.below s.near) fa1 fa2
    clear P2 cS Hh Hj Hi fa1 fa2 nf nf2 hT
    generalize findV (eachL a0 R) (ofC a2) = y at *
    replace A1 := Lib.hid A1; replace A2 := Lib.hid A2; replace RC := Lib.hid RC; replace hbc := Lib.hid hbc
    go_wp2_with fail
    refine wp_region_near (by kernel_rfl) (by kernel_rfl) ?_
    intro hs
    repeat (go_big_quiet_step ((first | (go_at_call 52; exact Calls.near (by simp) (A1.out _)) | (go_at_call 42; exact Calls.near (by simp) (A2.out _)))))
    refine wpQuiet_nil ?_
    clear hs
    intro wd hbd
    have hbe := hbc.out.trans (hbd.mono hbc.out.size)
    replace hbe := Lib.hid hbe
    go_wp2_with fail
    go_ret
    exact Ret.mk rfl hbe.out
  · have q0 : decide ((50 : Int) < (n : Int)) = true := decide_eq_true (by omega)
    replace H1 := Lib.hid H1
    go_wp2_with fail
    go_ret
    exact H1.out.ret rfl
end Go.Proofs.Ytfdijoaclpnccaa.Avec
