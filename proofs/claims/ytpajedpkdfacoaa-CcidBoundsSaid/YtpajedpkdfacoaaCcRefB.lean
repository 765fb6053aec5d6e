/- The walks of the document's control, as it begins: Sent, Took, Tick. -/
import Derived.Test.YtpajedpkdfacoaaCcRef
namespace Go.Proofs.Ytpajedpkdfacoaa.CcRef
set_option linter.unusedSimpArgs false
set_option linter.unusedVariables false
open Go Go.RowKit Go.Shelf Go.Proofs.Ytpajedpkdfacoaa Go.Proofs.Ytpajedpkdfacoaa.Circ
attribute [local irreducible] Calls

/-- It answers something, and what it had is let go. -/
def Some1 {α : Type} (W : World) (S : Nat → Prop) (mk : α → Value) (r : List Asn) (e : Ending) (w' : World) : Prop := ∃ v : α, e = .returned (mk v) ∧ St W S w' r
theorem un_info : (Try.prog.info? 177).map (fun i => (i.zero, i.size, i.bytes)) = some (some (.agg #[.int .i64 0, .int .i64 0, .int .i64 0]), 3, 24) := by kernel_rfl
section
variable {W w : World} {S : Nat → Prop} {b p f g : Nat} {n : Int} {r : List Asn}
set_option maxRecDepth 100000 in
theorem rput_st (seq now : Int) (H : St W S w (cellA f [.slice none 0 0] :: r)) : Calls Try.prog 97 #[.pointer (some ⟨f, 0, none⟩), .int .i64 seq, .int .i64 now] w (Some1 W S Value.bool r) := by
  obtain ⟨i0, hi, hz, hz1, hz2⟩ := info_parts un_info
  obtain ⟨z, c, ff⟩ := H.box 0 rfl
  have E1 := H.alloc [] 177
  have E2 := E1.row_empty (size := 3) 0 rfl
  clear H E1
  replace E2 := Lib.hid E2
  go_enter Try.func97, Try.ntmps97
  go_wp2_with (at_builtin; (refine wpList_appRd rfl (.tmp 14) (.tmp 18) _ rfl 177 i0 _ 3 24 Try.underlying115 hi hz hz1 hz2 rfl (by omega) 0 _ 0 [] rfl E2.out rfl none 0 0 [] rfl rfl (Rd.nil _ _) (fun _ => rfl) (by simp) (by omega) (by omega) ?_; intro v1 w1 H1; obtain ⟨a1, c1, rfl, _⟩ := St.slice (by omega) 0 H1 rfl; replace H1 := Lib.hid H1))
  refine Calls.mono (rof_any _ _) ?_
  rintro e w2 ⟨rfl, hb2⟩
  have z2 := Below.size hb2; try simp only [World.size_alloc, World.size_setCell, World.size_drew] at z2
  have H2 := (H1.out.thru hb2)
  obtain ⟨z2, c2, ff2⟩ := H2.box 1 rfl
  clear H1 E2
  replace H2 := Lib.hid H2
  go_wp2_with (at_builtin; (refine wpList_appS rfl (.tmp 19) (.tmp 26) _ rfl 177 i0 _ 3 24 Try.underlying115 hi hz hz1 hz2 rfl (by omega) 0 _ 0 [] rfl H2.out rfl 1 1 _ rfl rfl (by simp [Value.oneCell']) (by omega) (by omega) ?_; intro v3 w3 H3; obtain ⟨a3, c3, rfl, _⟩ := St.slice (by omega) 0 H3 rfl; obtain ⟨z3, k3, f3⟩ := H3.box 1 rfl; have H4 := ((H3.set 1 rfl 0 (.slice a3 1 c3) (by simp)).drop 0 rfl).drop 0 rfl; replace H4 := Lib.hid H4; replace H3 := Lib.hid H3))
  go_ret
  exact ⟨true, rfl, H4.out⟩
set_option maxRecDepth 100000 in
theorem rsent_st (seq now : Int) (H : St W S w (refC b n :: r)) : Calls Try.prog 55 #[.pointer (some ⟨b, 0, none⟩), .int .i64 seq, .int .i64 now] w (Some1 W S Value.bool r) := by
  obtain ⟨p, f, g, H1⟩ := ref_parts H
  have H2 : St W S w (cellA b (rcV p f) :: cellA f [.slice none 0 0] :: r) := (H1.drop 2 rfl).drop 2 rfl
  have P := rroom_st (vs := rcV p f) rfl rfl H2
  clear H H1
  replace H2 := Lib.hid H2; replace P := Lib.hid P
  go_enter Try.func55, Try.ntmps55
  go_wp2_with fail
  refine Calls.mono (P.out) ?_
  rintro e w1 ⟨rfl, hb1⟩
  have z1 := Below.size hb1; try simp only [World.size_alloc, World.size_setCell, World.size_drew] at z1
  have H3 := H2.out.thru hb1
  obtain ⟨z, c, ff⟩ := H3.box 0 rfl
  obtain ⟨z2, c2, ff2⟩ := H3.box 1 rfl
  unfold rcV at c
  clear H2 P
  replace H3 := Lib.hid H3
  go_wp2_with fail
  refine Calls.mono (rtime_any now _) ?_
  rintro e w4 ⟨rfl, hb4⟩
  have z4 := Below.size hb4; try simp only [World.size_alloc, World.size_setCell, World.size_drew] at z4
  have H4 := (H3.out.thru hb4)
  obtain ⟨z4, c4, ff4⟩ := H4.box 0 rfl
  unfold rcV at c4
  have H5 := H4.set 0 rfl 7 (.int .i64 0) (by simp [rcV])
  have H6 := H4.set 0 rfl 14 (.int .i64 (Flight.timeV now)) (by simp [rcV])
  have P6 := rput_st seq now (H6.drop 0 rfl)
  clear H3 H4 H5
  replace P6 := Lib.hid P6
  go_wp2_with fail
  refine Calls.mono P6.out ?_
  rintro e w7 ⟨v, rfl, H7⟩
  clear P6
  replace H7 := Lib.hid H7
  go_wp2_with fail
  go_ret
  exact ⟨v, rfl, H7.out⟩
theorem rfit_st (H : St W S w (cellA b (rcV p f) :: r)) : Calls Try.prog 106 #[.pointer (some ⟨b, 0, none⟩)] w (fun e w' => e = .returned (.tuple #[]) ∧ St W S w' (cellA b (rcV p f) :: r)) := by
  obtain ⟨z, c, ff⟩ := H.box 0 rfl
  unfold rcV at c
  have e3 := c 7
  have e2 := c 2
  replace H := Lib.hid H
  go_enter Try.func106, Try.ntmps106
  go_wp2_with fail
  refine wp_region_near_tail 20 (by kernel_rfl) (by kernel_rfl) ?_
  intro hs
  simp only [List.take_succ_cons, List.take_zero, List.drop_succ_cons, List.drop_zero]
  repeat (go_big_quiet_step (fail))
  refine wpQuiet_nil ?_
  clear hs
  intro w1 hb1
  have H1 := H.out.thru hb1
  obtain ⟨z1, c1, ff1⟩ := H1.box 0 rfl
  unfold rcV at c1
  have H2 : St W S _ (cellA b (rcV p f) :: r) := H1.set 0 rfl 7 (.int .i64 1) (by simp [rcV])
  clear H c e3 e2
  replace H1 := Lib.hid H1; replace H2 := Lib.hid H2
  go_wp2_with fail
  go_end0
  exact ⟨rfl, H2.out⟩
set_option maxRecDepth 100000 in
theorem rftook_st (fr now : Int) (ra : Option Addr) (m cap : Nat) (H : St W S w (cellA f [.slice none 0 0] :: r)) : Calls Try.prog 103 #[.pointer (some ⟨f, 0, none⟩), .int .i64 fr, .slice ra m cap, .int .i64 now] w (fun e w' => e = .returned (.agg #[.int .i64 0, .int .i64 0, .int .i64 0, .int .i64 0, .int .i64 0]) ∧ St W S w' (cellA f [.slice none 0 0] :: r)) := by
  have H0 := (H.alloc [.int .i64 0, .int .i64 0, .int .i64 0, .int .i64 0, .int .i64 0] 150).alloc [.int .i64 0, .int .i64 0, .int .i64 0, .int .i64 0, .int .i64 0] 150
  simp only [World.size_alloc] at H0
  obtain ⟨z, c, ff⟩ := H.box 0 rfl
  have H1 := H0.arrN [2, 0, 1] rfl
  clear H0 H z c ff
  replace H1 := Lib.hid H1
  go_enter Try.func103, Try.ntmps103
  go_wp2_with fail
  go_loopg [10, 12, 13, 14, 15] 0 (fun g v10 v12 _ _ _ wr => g = 0 ∧ v10 = .slice none 0 0 ∧ v12 = .int .i64 0 ∧ Hid (St W S wr (cellA f [.slice none 0 0] :: cellA (w.heap.size + 1) [.int .i64 0, .int .i64 0, .int .i64 0, .int .i64 0, .int .i64 0] :: cellA w.heap.size [.int .i64 0, .int .i64 0, .int .i64 0, .int .i64 0, .int .i64 0] :: r)))
  case atStart => exact ⟨rfl, rfl, rfl, H1⟩
  case round =>
    obtain ⟨hg, rfl, rfl, hst⟩ := hrel
    clear H1
    obtain ⟨z, c, ff⟩ := hst.out.box 0 rfl
    go_wp2_with fail
    go_loopg [11, 16] 0 (fun g v11 v16 wr => g = 0 ∧ v11 = .slice none 0 0 ∧ v16 = .int .i64 0 ∧ Hid (St W S wr (cellA f [.slice none 0 0] :: cellA (w.heap.size + 1) [.int .i64 0, .int .i64 0, .int .i64 0, .int .i64 0, .int .i64 0] :: cellA w.heap.size [.int .i64 0, .int .i64 0, .int .i64 0, .int .i64 0, .int .i64 0] :: r)))
    case atStart => exact ⟨rfl, rfl, rfl, hst⟩
    case round =>
      clear hst z c ff
      obtain ⟨hg, rfl, rfl, hst⟩ := hrel
      have H2 := hst.out.set 0 rfl 0 (.slice none 0 0) (by simp)
      obtain ⟨z, c, ff⟩ := hst.out.box 0 rfl
      obtain ⟨z1, c1, ff1⟩ := hst.out.box 1 rfl
      obtain ⟨z2, c2, ff2⟩ := hst.out.box 2 rfl
      have n1 : ¬ f = w.heap.size + 1 := hst.out.ne_cells 0 1 rfl rfl (by decide)
      have n2 : ¬ f = w.heap.size := hst.out.ne_cells 0 2 rfl rfl (by decide)
      have n3 : ¬ w.heap.size + 1 = f := fun e => n1 e.symm
      have n4 : ¬ w.heap.size = f := fun e => n2 e.symm
      have H3 := H2.front 2 rfl
      have H4 := ((((((((((H3).set 0 rfl 0 (.int .i64 0) (by simp))).set 0 rfl 1 (.int .i64 0) (by simp))).set 0 rfl 2 (.int .i64 0) (by simp))).set 0 rfl 3 (.int .i64 0) (by simp))).set 0 rfl 4 (.int .i64 0) (by simp))
      have H5 := ((H4.arrN [1, 0, 2] rfl).drop 1 rfl).drop 1 rfl
      clear H2 H3 hst H4
      replace H5 := Lib.hid H5
      go_wp2_with fail
      exact bodyPost_ret (v := .agg #[.int .i64 0, .int .i64 0, .int .i64 0, .int .i64 0, .int .i64 0]) (by simp [results, Try.results103, go_sem, z2, c2, ff2]) rfl ⟨rfl, H5.out⟩
set_option maxRecDepth 100000 in
theorem rtook_st (fr next now : Int) (ra : Option Addr) (m cap : Nat) (H : St W S w (refC b n :: r)) : Calls Try.prog 57 #[.pointer (some ⟨b, 0, none⟩), .int .i64 fr, .slice ra m cap, .int .i64 next, .int .i64 now] w (Some1 W S (Value.int .i64) r) := by
  obtain ⟨p, f, g, H1⟩ := ref_parts H
  have H2 : St W S w (cellA b (rcV p f) :: cellA f [.slice none 0 0] :: r) := (H1.drop 2 rfl).drop 2 rfl
  obtain ⟨z, c, ff⟩ := H2.box 0 rfl
  obtain ⟨z2, c2, ff2⟩ := H2.box 1 rfl
  unfold rcV at c
  have e0 := c 1
  have e1 := c 2
  clear H H1 c
  replace H2 := Lib.hid H2
  go_enter Try.func57, Try.ntmps57
  go_wp2_with fail
  refine wp_region_near (by kernel_rfl) (by kernel_rfl) ?_
  intro hs
  repeat (go_big_quiet_step (fail))
  refine wpQuiet_nil ?_
  clear hs
  intro w1 hb1
  have H3 := (H2.out.thru hb1)
  obtain ⟨z3, c3, ff3⟩ := H3.box 0 rfl
  unfold rcV at c3
  have P := rftook_st fr now ra m cap (H3.arrN [1, 0] rfl)
  clear H2 z e0 e1 ff z2 c2 ff2
  replace P := Lib.hid P; replace H3 := Lib.hid H3
  go_wp2_with fail
  refine Calls.mono P.out ?_
  rintro e w4 ⟨rfl, H4⟩
  have H5 := (H4.alloc [.int .i64 0, .int .i64 0, .int .i64 0, .int .i64 0, .int .i64 0] 150).arrN [2, 1, 0] rfl
  have P5 := rfit_st H5
  clear P H3 H4 z3 c3 ff3
  replace P5 := Lib.hid P5
  go_wp2_with fail
  refine Calls.mono P5.out ?_
  rintro e w5 ⟨rfl, H6⟩
  obtain ⟨z6, c6, ff6⟩ := H6.box 2 rfl
  clear P5 H5
  replace H6 := Lib.hid H6
  go_wp2_with fail
  go_ret
  exact ⟨0, rfl, ((H6.out.drop 0 rfl).drop 0 rfl).drop 0 rfl⟩
set_option maxRecDepth 100000 in
theorem rtick_st (next now : Int) (H : St W S w (refC b n :: r)) : Calls Try.prog 58 #[.pointer (some ⟨b, 0, none⟩), .int .i64 next, .int .i64 now] w (Some1 W S Value.bool r) := by
  obtain ⟨p, f, g, H1⟩ := ref_parts H
  obtain ⟨z, c, ff⟩ := H1.box 0 rfl
  obtain ⟨z2, c2, ff2⟩ := H1.box 1 rfl
  obtain ⟨z3, c3, ff3⟩ := H1.box 2 rfl
  unfold rcV at c
  unfold hV at c3
  clear H
  replace H1 := Lib.hid H1
  go_enter Try.func58, Try.ntmps58
  go_wp2_with fail
  refine wp_region_near (by kernel_rfl) (by kernel_rfl) ?_
  intro hs
  repeat (go_big_quiet_step (fail))
  refine wpQuiet_nil ?_
  clear hs
  intro w1 hb1
  have H3 := (H1.out.thru hb1)
  clear H1
  replace H3 := Lib.hid H3
  go_wp2_with fail
  go_ret
  exact ⟨false, rfl, (((H3.out.drop 0 rfl).drop 0 rfl).drop 0 rfl).drop 0 rfl⟩
end
end Go.Proofs.Ytpajedpkdfacoaa.CcRef
