/- The walk of anabranchlaw23.step, on a control and on the document's as it begins. -/
import Derived.Test.YtpajedpkdfacoaaCcWorks
import Derived.Test.YtpajedpkdfacoaaCcRefG
namespace Go.Proofs.Ytpajedpkdfacoaa.Ccid
set_option linter.unusedSimpArgs false
set_option linter.unusedVariables false
open Go Go.RowKit Go.Shelf Go.Proofs.Ytpajedpkdfacoaa Go.Proofs.Ytpajedpkdfacoaa.Circ
open Go.Proofs.Ytpajedpkdfacoaa.Flight (Un flightA timeV OkU)
open Go.Proofs.Ytpajedpkdfacoaa.Heard (Hd heardA gotD)
open Go.Proofs.Ytpajedpkdfacoaa.Avec (Run runs)
open Go.Proofs.Ytpajedpkdfacoaa.CcRef (refC rsent_st rtook_st rtick_st rgot_st ref_parts rcV hV)
attribute [local irreducible] Calls

def opV (kind seq next now : Int) (dt : Bool) (ra : Option Addr) (m cap : Nat) : List Value := [.int .i64 kind, .int .i64 seq, .int .i64 next, .int .i64 now, .bool dt, .slice ra m cap]
/-- It answers; the control is still good; the document's is let go. -/
def StepS (W : World) (S : Nat → Prop) (N : Nat) (t : Int) (a : Nat) (r : List Asn) (e : Ending) (w' : World) : Prop :=
  ∃ v hd l x, e = .returned (.bool v) ∧ Good N t hd l x ∧ St W S w' (ctlA a hd l x :: r)
set_option maxRecDepth 100000 in
set_option maxHeartbeats 2000000 in
theorem step_st {N : Nat} {t : Int} {W w : World} {S : Nat → Prop} {a b : Nat} {hd : Hd} {l : List Un} {x : Cc} {r : List Asn} (kind seq next now : Int) (dt : Bool) (ra : Option Addr) (m cap : Nat) (R : List Run) (first : Int)
    (hm : R.length = m) (hm2 : m ≤ 1000) (hN : N ≤ 900) (hg : Good N t hd l x) (h0 : 0 ≤ t) (ht : t ≤ now) (h1 : now ≤ 1000000) (hR : ∀ w' l', St W S w' l' → Rd w' ra (runs R)) (H0 : St W S w (ctlA a hd l x :: refC b (ofC first) :: r)) :
    Calls Try.prog 23 #[.pointer (some ⟨a, 0, none⟩), .pointer (some ⟨b, 0, none⟩), .agg (opV kind seq next now dt ra m cap).toArray] w (StepS W S (N + 1) now a r) := by
  have H := H0.alloc (opV kind seq next now dt ra m cap) 52
  obtain ⟨z, c, f⟩ := H.box 0 rfl
  unfold opV at *
  unfold StepS
  clear H0
  by_cases k0 : kind = 0
  · have q0 : (kind == 0) = true := by simpa using k0
    replace k0 := Lib.hid k0
    have hgood := fun u => good_sent hg ht (by omega) h1 u seq
    have P := fun (w' : World) (H : St W S w' (ctlA a hd l x :: cellA w.heap.size [.int .i64 kind, .int .i64 seq, .int .i64 next, .int .i64 now, .bool dt, .slice ra m cap] :: refC b (ofC first) :: r)) => sent_st seq now hg.fine.win H
    clear hg hR hm
    replace H := Lib.hid H; replace P := Lib.hid P; replace hgood := Lib.hid hgood
    go_enter Try.func23, Try.ntmps23
    go_wp2_with fail
    have Hn : St W S _ [cellA w.heap.size [.int .i64 kind, .int .i64 seq, .int .i64 next, .int .i64 now, .bool dt, .slice ra m cap]] := H.out.drops 1
    have hcl : ∀ (u : Cls W S [cellA w.heap.size [.int .i64 kind, .int .i64 seq, .int .i64 next, .int .i64 now, .bool dt, .slice ra m cap]]) (o : Nat), u.it.cell? ⟨w.heap.size, o, none⟩ = [Value.int .i64 kind, .int .i64 seq, .int .i64 next, .int .i64 now, .bool dt, .slice ra m cap][o]? := fun u => (u.st.box 0 rfl).cells
    haveI := St.ne Hn
    refine wp_region_madeC Hn [0, 1, 2, 3, 4, 6, 7, 8, 9, 10] [true, true, true, true, true, false, true, true, true, true, true, false, false, false] 4 #[true, true, true, true, true, false, true, true, true, true, true, false, false, false] (by kernel_rfl) rfl (by kernel_rfl) (by kernel_rfl) rfl (by kernel_rfl) (by kernel_rfl) (by intro c a a' w e h; obtain ⟨t, d⟩ := a; obtain ⟨t', d'⟩ := a'; obtain rfl : d = d' := e; exact h) ?_
    simp only [pickB]
    repeat (go_big_quiet_step (fail))
    refine wpQuiet_nil ?_
    refine held_one (i := 5) (by kernel_rfl) fun K hK => ?_
    simp only [List.drop_succ_cons, List.drop_zero, List.take_succ_cons, List.take_zero]
    have P2 := P.out _ (H.out.drew.arrN [1, 0, 2] rfl)
    go_wp2_with fail
    refine Calls.mono P2 ?_
    rintro e w1 ⟨u, rfl, H2⟩
    replace hgood := Lib.hid (hgood.out u)
    clear P P2
    have Hn2 : St W S _ [cellA w.heap.size [.int .i64 kind, .int .i64 seq, .int .i64 next, .int .i64 now, .bool dt, .slice ra m cap]] := (H2.arrN [1, 0] rfl).drops 1
    go_wp2_with fail
    refine hK _ _ Hn2 ?_
    clear hK K
    refine held_one (i := 11) (by kernel_rfl) fun K hK => ?_
    simp only [List.drop_succ_cons, List.drop_zero, List.take_succ_cons, List.take_zero]
    have P3 := rsent_st seq now (H2.arrN [2, 0, 1] rfl)
    go_wp2_with fail
    refine Calls.mono P3 ?_
    rintro e w2 ⟨v, rfl, H3⟩
    clear P3 H2
    have Hn3 : St W S _ [cellA w.heap.size [.int .i64 kind, .int .i64 seq, .int .i64 next, .int .i64 now, .bool dt, .slice ra m cap]] := (H3.arrN [1, 0] rfl).drops 1
    go_wp2_with fail
    refine hK _ _ Hn3 ?_
    clear hK K
    haveI := St.ne Hn3
    refine calmC Hn3 [12, 13] [false, false, false, false, false, false, false, false, false, false, false, false, true, true] 0 2 #[true, true, true, true, true, true, true, true, true, true, true, true, false, false] #[true, true, true, true, true, true, true, true, true, true, true, true, true, true] rfl (by kernel_rfl) (by kernel_rfl) rfl (by kernel_rfl) (by kernel_rfl) (by intro c a a' w e h; obtain ⟨t, d⟩ := a; obtain ⟨t', d'⟩ := a'; obtain rfl : d = d' := e; exact h) ?_
    simp only [pickB]
    repeat (go_big_quiet_step (fail))
    refine wpQuiet_nil ?_
    refine held_done (by kernel_rfl) ?_
    replace H3 := Lib.hid H3
    go_wp2_with fail
    go_ret
    exact ⟨_, _, _, _, rfl, hgood.out, H3.out.drop 1 rfl⟩
  · have q0 : (kind == 0) = false := by simpa using k0
    have q0' : decide (kind = 0) = false := decide_eq_false k0
    by_cases k1 : kind = 1
    · have q1 : (kind == 1) = true := by simpa using k1
      replace k0 := Lib.hid k0; replace k1 := Lib.hid k1
      have hgood := fun u => good_sent hg ht (by omega) h1 u seq
      have P := fun (w' : World) (H : St W S w' (ctlA a hd l x :: cellA w.heap.size [.int .i64 kind, .int .i64 seq, .int .i64 next, .int .i64 now, .bool dt, .slice ra m cap] :: refC b (ofC first) :: r)) => sent_st seq now hg.fine.win H
      clear hg hR hm
      replace H := Lib.hid H; replace P := Lib.hid P; replace hgood := Lib.hid hgood
      go_enter Try.func23, Try.ntmps23
      go_wp2_with fail
      have Hn : St W S _ [cellA w.heap.size [.int .i64 kind, .int .i64 seq, .int .i64 next, .int .i64 now, .bool dt, .slice ra m cap]] := H.out.drops 1
      have hcl : ∀ (u : Cls W S [cellA w.heap.size [.int .i64 kind, .int .i64 seq, .int .i64 next, .int .i64 now, .bool dt, .slice ra m cap]]) (o : Nat), u.it.cell? ⟨w.heap.size, o, none⟩ = [Value.int .i64 kind, .int .i64 seq, .int .i64 next, .int .i64 now, .bool dt, .slice ra m cap][o]? := fun u => (u.st.box 0 rfl).cells
      haveI := St.ne Hn
      refine wp_region_madeC Hn [0, 1, 2, 3, 4, 6, 7, 8, 9, 10] [true, true, true, true, true, false, true, true, true, true, true, false, false, false] 4 #[true, true, true, true, true, false, true, true, true, true, true, false, false, false] (by kernel_rfl) rfl (by kernel_rfl) (by kernel_rfl) rfl (by kernel_rfl) (by kernel_rfl) (by intro c a a' w e h; obtain ⟨t, d⟩ := a; obtain ⟨t', d'⟩ := a'; obtain rfl : d = d' := e; exact h) ?_
      simp only [pickB]
      repeat (go_big_quiet_step (fail))
      refine wpQuiet_nil ?_
      refine held_one (i := 5) (by kernel_rfl) fun K hK => ?_
      simp only [List.drop_succ_cons, List.drop_zero, List.take_succ_cons, List.take_zero]
      have P2 := P.out _ (H.out.drew.arrN [1, 0, 2] rfl)
      go_wp2_with fail
      refine Calls.mono P2 ?_
      rintro e w1 ⟨u, rfl, H2⟩
      replace hgood := Lib.hid (hgood.out u)
      clear P P2
      have Hn2 : St W S _ [cellA w.heap.size [.int .i64 kind, .int .i64 seq, .int .i64 next, .int .i64 now, .bool dt, .slice ra m cap]] := (H2.arrN [1, 0] rfl).drops 1
      go_wp2_with fail
      refine hK _ _ Hn2 ?_
      clear hK K
      refine held_one (i := 11) (by kernel_rfl) fun K hK => ?_
      simp only [List.drop_succ_cons, List.drop_zero, List.take_succ_cons, List.take_zero]
      have P3 := rsent_st seq now (H2.arrN [2, 0, 1] rfl)
      go_wp2_with fail
      refine Calls.mono P3 ?_
      rintro e w2 ⟨v, rfl, H3⟩
      clear P3 H2
      have Hn3 : St W S _ [cellA w.heap.size [.int .i64 kind, .int .i64 seq, .int .i64 next, .int .i64 now, .bool dt, .slice ra m cap]] := (H3.arrN [1, 0] rfl).drops 1
      go_wp2_with fail
      refine hK _ _ Hn3 ?_
      clear hK K
      haveI := St.ne Hn3
      refine calmC Hn3 [12, 13] [false, false, false, false, false, false, false, false, false, false, false, false, true, true] 0 2 #[true, true, true, true, true, true, true, true, true, true, true, true, false, false] #[true, true, true, true, true, true, true, true, true, true, true, true, true, true] rfl (by kernel_rfl) (by kernel_rfl) rfl (by kernel_rfl) (by kernel_rfl) (by intro c a a' w e h; obtain ⟨t, d⟩ := a; obtain ⟨t', d'⟩ := a'; obtain rfl : d = d' := e; exact h) ?_
      simp only [pickB]
      repeat (go_big_quiet_step (fail))
      refine wpQuiet_nil ?_
      refine held_done (by kernel_rfl) ?_
      replace H3 := Lib.hid H3
      go_wp2_with fail
      go_ret
      exact ⟨_, _, _, _, rfl, hgood.out, H3.out.drop 1 rfl⟩
    · have q1 : (kind == 1) = false := by simpa using k1
      have q1' : decide (kind = 1) = false := decide_eq_false k1
      by_cases k2 : kind = 2
      · have q2 : (kind == 2) = true := by simpa using k2
        replace k0 := Lib.hid k0; replace k1 := Lib.hid k1; replace k2 := Lib.hid k2
        have hgood := good_got hg ht seq dt
        obtain ⟨p, f1, g, HA⟩ := ref_parts (H.arrN [2, 0, 1] rfl)
        have HB := HA.arrN [4, 0, 5, 1, 2, 3] rfl
        have P := fun (w' : World) (H : St W S w' (ctlA a hd l x :: cellA w.heap.size [.int .i64 kind, .int .i64 seq, .int .i64 next, .int .i64 now, .bool dt, .slice ra m cap] :: cellA b (rcV p f1) :: cellA f1 [.slice none 0 0] :: cellA p (hV g (ofC first)) :: cellA g [.int .i64 (ofC first)] :: r)) => got_st seq dt hg.came ⟨hg.u0, by have := hg.u1; omega⟩ H
        clear hg hR hm H HA
        replace HB := Lib.hid HB; replace P := Lib.hid P; replace hgood := Lib.hid hgood
        go_enter Try.func23, Try.ntmps23
        go_wp2_with fail
        have Hn : St W S _ [cellA w.heap.size [.int .i64 kind, .int .i64 seq, .int .i64 next, .int .i64 now, .bool dt, .slice ra m cap], cellA b [.pointer (some ⟨p, 0, none⟩), .pointer (some ⟨f1, 0, none⟩), .int .i64 3, .int .i64 16, .int .i64 0, .bool false, .int .i64 0, .int .i64 1, .int .i64 0, .int .i64 0, .int .i64 0, .int .i64 0, .bool false, .int .i64 0, .int .i64 0]] := HB.out.drops 2
        have hcl : ∀ (u : Cls W S [cellA w.heap.size [.int .i64 kind, .int .i64 seq, .int .i64 next, .int .i64 now, .bool dt, .slice ra m cap], cellA b [.pointer (some ⟨p, 0, none⟩), .pointer (some ⟨f1, 0, none⟩), .int .i64 3, .int .i64 16, .int .i64 0, .bool false, .int .i64 0, .int .i64 1, .int .i64 0, .int .i64 0, .int .i64 0, .int .i64 0, .bool false, .int .i64 0, .int .i64 0]]) (o : Nat), u.it.cell? ⟨w.heap.size, o, none⟩ = [Value.int .i64 kind, .int .i64 seq, .int .i64 next, .int .i64 now, .bool dt, .slice ra m cap][o]? := fun u => (u.st.box 0 rfl).cells
        have hcb : ∀ (u : Cls W S [cellA w.heap.size [.int .i64 kind, .int .i64 seq, .int .i64 next, .int .i64 now, .bool dt, .slice ra m cap], cellA b [.pointer (some ⟨p, 0, none⟩), .pointer (some ⟨f1, 0, none⟩), .int .i64 3, .int .i64 16, .int .i64 0, .bool false, .int .i64 0, .int .i64 1, .int .i64 0, .int .i64 0, .int .i64 0, .int .i64 0, .bool false, .int .i64 0, .int .i64 0]]), u.it.cell? ⟨b, 0, none⟩ = some (.pointer (some ⟨p, 0, none⟩)) := fun u => (u.st.box 1 rfl).cells 0
        haveI := St.ne Hn
        refine wp_region_madeC Hn [0, 1, 2, 3, 4, 6, 7, 8, 9, 10, 11, 12, 13] [true, true, true, true, true, false, true, true, true, true, true, true, true, true, false, false, false] 4 #[true, true, true, true, true, false, true, true, true, true, true, true, true, true, false, false, false] (by kernel_rfl) rfl (by kernel_rfl) (by kernel_rfl) rfl (by kernel_rfl) (by kernel_rfl) (by intro c a a' w e h; obtain ⟨t, d⟩ := a; obtain ⟨t', d'⟩ := a'; obtain rfl : d = d' := e; exact h) ?_
        simp only [pickB]
        repeat (go_big_quiet_step (fail))
        refine wpQuiet_nil ?_
        refine held_one (i := 5) (by kernel_rfl) fun K hK => ?_
        simp only [List.drop_succ_cons, List.drop_zero, List.take_succ_cons, List.take_zero]
        have P2 := P.out _ (HB.out.drew.arrN [2, 0, 1, 3, 4, 5] rfl)
        go_wp2_with fail
        refine Calls.mono P2 ?_
        rintro e w1 ⟨rfl, H2⟩
        clear P P2
        have Hn2 : St W S _ [cellA w.heap.size [.int .i64 kind, .int .i64 seq, .int .i64 next, .int .i64 now, .bool dt, .slice ra m cap], cellA b [.pointer (some ⟨p, 0, none⟩), .pointer (some ⟨f1, 0, none⟩), .int .i64 3, .int .i64 16, .int .i64 0, .bool false, .int .i64 0, .int .i64 1, .int .i64 0, .int .i64 0, .int .i64 0, .int .i64 0, .bool false, .int .i64 0, .int .i64 0]] := (H2.arrN [1, 2, 0] rfl).drops 2
        go_wp2_with fail
        refine hK _ _ Hn2 ?_
        clear hK K
        refine held_one (i := 14) (by kernel_rfl) fun K hK => ?_
        simp only [List.drop_succ_cons, List.drop_zero, List.take_succ_cons, List.take_zero]
        have P3 := rgot_st first seq dt rfl (H2.arrN [4, 5, 0, 1, 2, 3] rfl)
        go_wp2_with fail
        refine Calls.mono P3 ?_
        rintro e w2 ⟨v, rfl, H3⟩
        clear P3 H2
        have Hn3 : St W S _ [cellA w.heap.size [.int .i64 kind, .int .i64 seq, .int .i64 next, .int .i64 now, .bool dt, .slice ra m cap], cellA b [.pointer (some ⟨p, 0, none⟩), .pointer (some ⟨f1, 0, none⟩), .int .i64 3, .int .i64 16, .int .i64 0, .bool false, .int .i64 0, .int .i64 1, .int .i64 0, .int .i64 0, .int .i64 0, .int .i64 0, .bool false, .int .i64 0, .int .i64 0]] := (H3.arrN [1, 2, 0] rfl).drops 2
        go_wp2_with fail
        refine hK _ _ Hn3 ?_
        clear hK K
        haveI := St.ne Hn3
        refine calmC Hn3 [15, 16] [false, false, false, false, false, false, false, false, false, false, false, false, false, false, false, true, true] 0 2 #[true, true, true, true, true, true, true, true, true, true, true, true, true, true, true, false, false] #[true, true, true, true, true, true, true, true, true, true, true, true, true, true, true, true, true] rfl (by kernel_rfl) (by kernel_rfl) rfl (by kernel_rfl) (by kernel_rfl) (by intro c a a' w e h; obtain ⟨t, d⟩ := a; obtain ⟨t', d'⟩ := a'; obtain rfl : d = d' := e; exact h) ?_
        simp only [pickB]
        repeat (go_big_quiet_step (fail))
        refine wpQuiet_nil ?_
        refine held_done (by kernel_rfl) ?_
        replace H3 := Lib.hid H3
        go_wp2_with fail
        go_ret
        exact ⟨_, _, _, _, rfl, hgood.out, ((H3.out.drop 1 rfl).drop 1 rfl).drop 1 rfl⟩
      · have q2 : (kind == 2) = false := by simpa using k2
        by_cases k3 : kind = 3
        · have q3 : (kind == 3) = true := by simpa using k3
          replace k0 := Lib.hid k0; replace k1 := Lib.hid k1; replace k2 := Lib.hid k2; replace k3 := Lib.hid k3
          have hgood := good_took hg ht (by omega) h1 seq next R
          have P := fun (w' : World) (H : St W S w' (ctlA a hd l x :: cellA w.heap.size [.int .i64 kind, .int .i64 seq, .int .i64 next, .int .i64 now, .bool dt, .slice ra m cap] :: refC b (ofC first) :: r)) => took_st seq next now R m cap hm hm2 ra hg.fine (by omega) (by omega) (by have := hg.len; omega) hg.ok (fun w' l' h => hR w' _ h) H
          clear hg hR hm
          replace H := Lib.hid H; replace P := Lib.hid P; replace hgood := Lib.hid hgood
          go_enter Try.func23, Try.ntmps23
          go_wp2_with fail
          have Hn : St W S _ [cellA w.heap.size [.int .i64 kind, .int .i64 seq, .int .i64 next, .int .i64 now, .bool dt, .slice ra m cap]] := H.out.drops 1
          have hcl : ∀ (u : Cls W S [cellA w.heap.size [.int .i64 kind, .int .i64 seq, .int .i64 next, .int .i64 now, .bool dt, .slice ra m cap]]) (o : Nat), u.it.cell? ⟨w.heap.size, o, none⟩ = [Value.int .i64 kind, .int .i64 seq, .int .i64 next, .int .i64 now, .bool dt, .slice ra m cap][o]? := fun u => (u.st.box 0 rfl).cells
          haveI := St.ne Hn
          refine wp_region_madeC Hn [0, 1, 2, 3, 4, 5, 6, 7, 8, 10, 11, 12, 13, 14, 15, 16, 17, 18] [true, true, true, true, true, true, true, true, true, false, true, true, true, true, true, true, true, true, true, false, false, false] 4 #[true, true, true, true, true, true, true, true, true, false, true, true, true, true, true, true, true, true, true, false, false, false] (by kernel_rfl) rfl (by kernel_rfl) (by kernel_rfl) rfl (by kernel_rfl) (by kernel_rfl) (by intro c a a' w e h; obtain ⟨t, d⟩ := a; obtain ⟨t', d'⟩ := a'; obtain rfl : d = d' := e; exact h) ?_
          simp only [pickB]
          repeat (go_big_quiet_step (fail))
          refine wpQuiet_nil ?_
          refine held_one (i := 9) (by kernel_rfl) fun K hK => ?_
          simp only [List.drop_succ_cons, List.drop_zero, List.take_succ_cons, List.take_zero]
          have P2 := P.out _ (H.out.drew.arrN [1, 0, 2] rfl)
          go_wp2_with fail
          refine Calls.mono P2 ?_
          rintro e w1 ⟨rfl, H2⟩
          clear P P2
          have Hn2 : St W S _ [cellA w.heap.size [.int .i64 kind, .int .i64 seq, .int .i64 next, .int .i64 now, .bool dt, .slice ra m cap]] := (H2.arrN [1, 0] rfl).drops 1
          go_wp2_with fail
          refine hK _ _ Hn2 ?_
          clear hK K
          refine held_one (i := 19) (by kernel_rfl) fun K hK => ?_
          simp only [List.drop_succ_cons, List.drop_zero, List.take_succ_cons, List.take_zero]
          have P3 := rtook_st seq next now ra m cap (H2.arrN [2, 0, 1] rfl)
          go_wp2_with fail
          refine Calls.mono P3 ?_
          rintro e w2 ⟨v, rfl, H3⟩
          clear P3 H2
          have Hn3 : St W S _ [cellA w.heap.size [.int .i64 kind, .int .i64 seq, .int .i64 next, .int .i64 now, .bool dt, .slice ra m cap]] := (H3.arrN [1, 0] rfl).drops 1
          go_wp2_with fail
          refine hK _ _ Hn3 ?_
          clear hK K
          haveI := St.ne Hn3
          refine calmC Hn3 [20, 21] [false, false, false, false, false, false, false, false, false, false, false, false, false, false, false, false, false, false, false, false, true, true] 0 2 #[true, true, true, true, true, true, true, true, true, true, true, true, true, true, true, true, true, true, true, true, false, false] #[true, true, true, true, true, true, true, true, true, true, true, true, true, true, true, true, true, true, true, true, true, true] rfl (by kernel_rfl) (by kernel_rfl) rfl (by kernel_rfl) (by kernel_rfl) (by intro c a a' w e h; obtain ⟨t, d⟩ := a; obtain ⟨t', d'⟩ := a'; obtain rfl : d = d' := e; exact h) ?_
          simp only [pickB]
          repeat (go_big_quiet_step (fail))
          refine wpQuiet_nil ?_
          refine held_done (by kernel_rfl) ?_
          replace H3 := Lib.hid H3
          go_wp2_with fail
          go_ret
          exact ⟨_, _, _, _, rfl, hgood.out, H3.out.drop 1 rfl⟩
        · have q3 : (kind == 3) = false := by simpa using k3
          by_cases k4 : kind = 4
          · have q4 : (kind == 4) = true := by simpa using k4
            replace k0 := Lib.hid k0; replace k1 := Lib.hid k1; replace k2 := Lib.hid k2; replace k3 := Lib.hid k3; replace k4 := Lib.hid k4
            have hgood := good_tick hg ht (by omega) h1 next
            have P := fun (w' : World) (H : St W S w' (ctlA a hd l x :: cellA w.heap.size [.int .i64 kind, .int .i64 seq, .int .i64 next, .int .i64 now, .bool dt, .slice ra m cap] :: refC b (ofC first) :: r)) => tick_st next now hg.fine ⟨hg.f0, by have := hg.f1; omega⟩ ⟨hg.s0, by have := hg.s1; omega⟩ (by have := hg.len; omega) ⟨hg.k0, by have := hg.k1; omega⟩ H
            clear hg hR hm
            replace H := Lib.hid H; replace P := Lib.hid P; replace hgood := Lib.hid hgood
            go_enter Try.func23, Try.ntmps23
            go_wp2_with fail
            have Hn : St W S _ [cellA w.heap.size [.int .i64 kind, .int .i64 seq, .int .i64 next, .int .i64 now, .bool dt, .slice ra m cap]] := H.out.drops 1
            have hcl : ∀ (u : Cls W S [cellA w.heap.size [.int .i64 kind, .int .i64 seq, .int .i64 next, .int .i64 now, .bool dt, .slice ra m cap]]) (o : Nat), u.it.cell? ⟨w.heap.size, o, none⟩ = [Value.int .i64 kind, .int .i64 seq, .int .i64 next, .int .i64 now, .bool dt, .slice ra m cap][o]? := fun u => (u.st.box 0 rfl).cells
            haveI := St.ne Hn
            refine wp_region_madeC Hn [0, 1, 2, 3, 4, 6, 7, 8, 9, 10] [true, true, true, true, true, false, true, true, true, true, true, false, false, false] 4 #[true, true, true, true, true, false, true, true, true, true, true, false, false, false] (by kernel_rfl) rfl (by kernel_rfl) (by kernel_rfl) rfl (by kernel_rfl) (by kernel_rfl) (by intro c a a' w e h; obtain ⟨t, d⟩ := a; obtain ⟨t', d'⟩ := a'; obtain rfl : d = d' := e; exact h) ?_
            simp only [pickB]
            repeat (go_big_quiet_step (fail))
            refine wpQuiet_nil ?_
            refine held_one (i := 5) (by kernel_rfl) fun K hK => ?_
            simp only [List.drop_succ_cons, List.drop_zero, List.take_succ_cons, List.take_zero]
            have P2 := P.out _ (H.out.drew.arrN [1, 0, 2] rfl)
            go_wp2_with fail
            refine Calls.mono P2 ?_
            rintro e w1 ⟨rfl, H2⟩
            clear P P2
            have Hn2 : St W S _ [cellA w.heap.size [.int .i64 kind, .int .i64 seq, .int .i64 next, .int .i64 now, .bool dt, .slice ra m cap]] := (H2.arrN [1, 0] rfl).drops 1
            go_wp2_with fail
            refine hK _ _ Hn2 ?_
            clear hK K
            refine held_one (i := 11) (by kernel_rfl) fun K hK => ?_
            simp only [List.drop_succ_cons, List.drop_zero, List.take_succ_cons, List.take_zero]
            have P3 := rtick_st next now (H2.arrN [2, 0, 1] rfl)
            go_wp2_with fail
            refine Calls.mono P3 ?_
            rintro e w2 ⟨v, rfl, H3⟩
            clear P3 H2
            have Hn3 : St W S _ [cellA w.heap.size [.int .i64 kind, .int .i64 seq, .int .i64 next, .int .i64 now, .bool dt, .slice ra m cap]] := (H3.arrN [1, 0] rfl).drops 1
            go_wp2_with fail
            refine hK _ _ Hn3 ?_
            clear hK K
            haveI := St.ne Hn3
            refine calmC Hn3 [12, 13] [false, false, false, false, false, false, false, false, false, false, false, false, true, true] 0 2 #[true, true, true, true, true, true, true, true, true, true, true, true, false, false] #[true, true, true, true, true, true, true, true, true, true, true, true, true, true] rfl (by kernel_rfl) (by kernel_rfl) rfl (by kernel_rfl) (by kernel_rfl) (by intro c a a' w e h; obtain ⟨t, d⟩ := a; obtain ⟨t', d'⟩ := a'; obtain rfl : d = d' := e; exact h) ?_
            simp only [pickB]
            repeat (go_big_quiet_step (fail))
            refine wpQuiet_nil ?_
            refine held_done (by kernel_rfl) ?_
            replace H3 := Lib.hid H3
            go_wp2_with fail
            go_ret
            exact ⟨_, _, _, _, rfl, hgood.out, H3.out.drop 1 rfl⟩
          · have q4 : (kind == 4) = false := by simpa using k4
            by_cases k5 : kind = 5
            · have q5 : (kind == 5) = true := by simpa using k5
              replace k0 := Lib.hid k0; replace k1 := Lib.hid k1; replace k2 := Lib.hid k2; replace k3 := Lib.hid k3; replace k4 := Lib.hid k4; replace k5 := Lib.hid k5
              have hgood := good_told hg ht
              have P := fun (w' : World) (H : St W S w' (ctlA a hd l x :: cellA w.heap.size [.int .i64 kind, .int .i64 seq, .int .i64 next, .int .i64 now, .bool dt, .slice ra m cap] :: refC b (ofC first) :: r)) => told_st H
              clear hg hR hm
              replace H := Lib.hid H; replace P := Lib.hid P; replace hgood := Lib.hid hgood
              go_enter Try.func23, Try.ntmps23
              go_wp2_with fail
              have P2 := P.out _ (H.out.arrN [1, 0, 2] rfl)
              refine Calls.mono P2 ?_
              rintro e w1 ⟨rfl, H2⟩
              obtain ⟨p, f1, g, H3⟩ := ref_parts (H2.arrN [2, 0, 1] rfl)
              obtain ⟨zb, cb, fb⟩ := H3.box 0 rfl
              obtain ⟨zp, cp, fp⟩ := H3.box 2 rfl
              unfold rcV at cb
              unfold hV at cp
              have e0 := cb 0
              have e3 := cp 3
              have e4 := cp 4
              have m1 : ¬ b = p := H3.ne_cells 0 2 rfl rfl (by decide)
              have m1' : ¬ p = b := fun e => m1 e.symm
              have H4 := ((H3.set 2 rfl 3 (.int .i64 0) (by simp [hV])).set 0 rfl 4 (.int .i64 0) (by simp [hV])).arrN [4, 0, 1, 2, 3] rfl
              clear P P2 H H2 H3 cp cb
              replace H4 := Lib.hid H4
              go_wp2_with fail
              go_ret
              exact ⟨true, _, _, _, rfl, hgood.out, ((((H4.out.drop 1 rfl).drop 1 rfl).drop 1 rfl).drop 1 rfl).drop 1 rfl⟩
            · have q5 : (kind == 5) = false := by simpa using k5
              have hgood := hg.later ht
              clear hg hR hm
              replace k0 := Lib.hid k0; replace k1 := Lib.hid k1; replace k2 := Lib.hid k2; replace k3 := Lib.hid k3; replace k4 := Lib.hid k4; replace k5 := Lib.hid k5; replace H := Lib.hid H; replace hgood := Lib.hid hgood
              go_enter Try.func23, Try.ntmps23
              go_wp2_with fail
              go_ret
              exact ⟨true, _, _, _, rfl, hgood.out, (H.out.drop 0 rfl).drop 1 rfl⟩
end Go.Proofs.Ytpajedpkdfacoaa.Ccid
