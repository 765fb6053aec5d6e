/- The walks of a channel: what is received, what is left. -/
import Derived.Test.YthodfihdmhkgeaaChanObj
namespace Go.Proofs.Ythodfihdmhkgeaa.Chan
set_option linter.unusedSimpArgs false
set_option linter.unusedVariables false
open Go Go.RowKit Go.Proofs.Ythodfihdmhkgeaa Go.Proofs.Ythodfihdmhkgeaa.DockDg
attribute [local irreducible] Calls

section
variable {c : Nat} {last : Int} {l : List El} {w : World} {S : Nat → Prop}
set_option maxRecDepth 100000 in
theorem recv_no (d : El) (h0 : 0 ≤ last) (hd : isI64 d.1) (hm : mayB last l d = false) (h : (chanA c last l).holds w S) :
    Calls Try.prog 45 #[.pointer (some ⟨c, 0, none⟩), .agg #[.int .i64 d.1, .string d.2]] w (Ret w (.bool false)) := by
  have H0 : St w S w [chanA c last l] := St.start (Sep.one h)
  obtain ⟨SX, hSX⟩ := (H0.skip (.cells #[.int .i64 d.1, .string d.2] 32)).held 0 rfl
  have P := may_any d h0 hd hSX
  rw [hm] at P
  clear h H0 hm
  obtain ⟨dn, ds⟩ := d
  simp only at *
  go_enter Try.func45, Try.ntmps45
  go_wp2_with fail
  refine Calls.mono P ?_
  rintro e w1 ⟨rfl, hb1⟩
  clear P
  go_wp2_with fail
  go_ret
  exact Ret.mk rfl (by repeat (first | with_reducible exact Below.refl _ _ | (with_reducible refine Below.al ?_) | (with_reducible refine Below.drew ?_) | (with_reducible refine Below.set ?_ (by first | (simp; done) | omega | (simp; omega))) | (with_reducible refine Below.thru ?_ (by assumption)) | (with_reducible refine Below.chg ?_ (by assumption) (by first | (simp; done) | omega | (simp; omega)))))
set_option maxRecDepth 100000 in
theorem recv_yes (d : El) (h0 : 0 ≤ last) (hd : isI64 d.1) (hm : mayB last l d = true) (h : (chanA c last l).holds w S) :
    Calls Try.prog 45 #[.pointer (some ⟨c, 0, none⟩), .agg #[.int .i64 d.1, .string d.2]] w (Fin w S (.bool true) [chanA c d.1 l]) := by
  have H0 : St w S w [chanA c last l] := St.start (Sep.one h)
  obtain ⟨SX, hSX⟩ := (H0.skip (.cells #[.int .i64 d.1, .string d.2] 32)).held 0 rfl
  have P := may_any d h0 hd hSX
  have H1 := H0.alloc [.int .i64 d.1, .string d.2] 32
  rw [hm] at P
  clear h H0 hm hSX
  obtain ⟨dn, ds⟩ := d
  simp only at *
  replace H1 := Lib.hid H1
  go_enter Try.func45, Try.ntmps45
  go_wp2_with fail
  refine Calls.mono P ?_
  rintro e w1 ⟨rfl, hb1⟩
  clear P
  obtain ⟨v, H2⟩ := dock_parts ((H1.out.thru hb1).front 1 rfl)
  obtain ⟨z2, k2, f2⟩ := H2.box 0 rfl
  obtain ⟨z3, k3, f3⟩ := H2.box 2 rfl
  have H3 := (((H2.set 0 rfl 1 (.int .i64 dn) (by simp)).drop 2 rfl))
  replace H3 := Lib.hid H3
  clear H1 H2
  go_wp2_with fail
  go_ret
  exact ⟨rfl, dock_shut (v := v) (r := []) H3.out⟩

/-- A list of datagrams handed back, in memory of the call's own. -/
def RetD (w : World) (L : List El) (e : Ending) (w' : World) : Prop := ∃ v, e = .returned v ∧ St w none0 w' [rowA 2 v L.length (encs L)]
set_option maxRecDepth 100000 in
theorem rest_any (h0 : 0 ≤ last) (h1 : last ≤ l.length) (hsm : l.length ≤ 100000) (h : (chanA c last l).holds w S) :
    Calls Try.prog 62 #[.pointer (some ⟨c, 0, none⟩)] w (RetD w (l.drop last.toNat)) := by
  obtain ⟨i0, hi, hz, hz1, hz2⟩ := info_parts DelDg.el_info
  obtain ⟨v, H⟩ := dock_open h
  obtain ⟨a, cap, rfl, hn, hl, R⟩ := (H.row 1 rfl).rd (by omega)
  obtain ⟨z, k, f⟩ := H.box 0 rfl
  obtain ⟨p, hp⟩ : ∃ p : Nat, last = (p : Int) := ⟨last.toNat, by omega⟩
  subst hp
  have hpl : p ≤ l.length := by omega
  have hone : ∀ u ∈ encs (l.drop p), u.oneCell' = true := encs_one _
  have hlen : (encs (l.drop p)).length = (l.length - p) * 2 := by rw [encs_len, List.length_drop]
  have hcap : l.length ≤ cap := by
    have := H.row 1 rfl
    rcases this.2 with ⟨e, e0⟩ | ⟨_, _, cp, e, _, _, hc, _⟩
    · injection e with e1 e2 e3; omega
    · injection e with e1 e2 e3; omega
  rw [Int.toNat_natCast]
  have HN : St w none0 w [] := St.zero w
  clear h H hl h0 h1
  replace R := Lib.hid R; replace hone := Lib.hid hone; replace hlen := Lib.hid hlen
  go_enter Try.func62, Try.ntmps62
  go_wp2_with fail
  refine wp_region_near_tail 10 (by kernel_rfl) (by kernel_rfl) ?_
  intro hs
  simp only [List.take_succ_cons, List.take_zero, List.drop_succ_cons, List.drop_zero]
  repeat (go_big_quiet_step (fail))
  refine wpQuiet_nil ?_
  clear hs
  intro w1 hb1
  have H1 := HN.thru hb1
  obtain ⟨k1, f1⟩ := Below.blk hb1 (b := c) (by first | (simp; done) | omega | (simp; omega))
  have z1 : c < w1.heap.size := Nat.lt_of_lt_of_le z hb1.size
  have R1 := R.out.below hb1
  have hq : (l.length : Int) - (p : Int) = ((l.length - p : Nat) : Int) := by omega
  rw [hq]
  clear hq
  replace R1 := Lib.hid R1
  refine wpList_makeS rfl (.tmp 15) (.tmp 15) _ rfl 32 i0 _ 2 Try.underlying22 hi hz hz1 .i64 .i64 _ _ (l.length - p) rfl rfl (by go_num) (by go_num) (by rw [hz2]; omega) (by unfold maxLen; omega) _ rfl H1 ?_
  intro w2 H2
  have H3 := H2.row_made (size := 2) (n := l.length - p) 0 rfl (by simp [size_madeCells]) (by unfold maxLen; omega)
  clear H2
  replace H3 := Lib.hid H3
  have hb2 := H3.out.below
  obtain ⟨k2, f2⟩ := Below.blk hb2 (b := c) (by first | (simp; done) | omega | (simp; omega))
  have z2 : c < w2.heap.size := Nat.lt_of_lt_of_le z hb2.size
  clear k1 f1 z1 R1
  go_wp2_with fail
  refine wp_region_near_tail 10 (by kernel_rfl) (by kernel_rfl) ?_
  intro hs
  simp only [List.take_succ_cons, List.take_zero, List.drop_succ_cons, List.drop_zero]
  repeat (go_big_quiet_step (fail))
  refine wpQuiet_nil ?_
  clear hs
  intro w3 hb3
  have H4 := H3.out.thru hb3
  have R4 := R.out.below H4.below
  clear H3
  refine wpList_copyS rfl (.tmp 17) (.tmp 26) _ rfl 32 i0 Try.underlying22 hi hz1 0 w1.heap.size 0 (l.length - p) H4 rfl rfl _ (l.length - p) _ rfl (Nat.le_refl _) (encs (l.drop p)) hlen.out ?_ hone.out ?_
  · intro hpos
    obtain ⟨b, off, e, hb, hc⟩ := Rd.rows enc_len (by omega) R4 rfl (by omega)
    subst e
    refine ⟨b, off + p * 2, ?_, fun j u hu => ?_⟩
    · (repeat' split) <;> first | rfl | (exfalso; omega) | (simp only [Option.map_some, Addr.add_lit])
    · rw [← encs_drop, List.getElem?_drop] at hu
      have := (R4.cons (by intro e; rw [e] at hu; simp at hu))
      obtain ⟨b', off', e', _, hc'⟩ := this
      injection e' with e'
      injection e' with e1 e2
      subst e1 e2
      rw [Nat.add_assoc]
      exact hc' _ _ hu
  · intro w4 H5
    have hdz : ∀ vs : List Value, vs.length = (l.length - p) * 2 → vs.drop (encs (l.drop p)).length = [] := fun vs hv => List.drop_of_length_le (by rw [hv, hlen.out]; omega)
    rw [hdz _ (by simp [size_madeCells]), List.append_nil] at H5
    replace H5 := Lib.hid H5
    go_wp2_with fail
    all_goals
      go_ret
      refine ⟨_, rfl, ?_⟩
      rw [List.length_drop]
      exact H5.out
end
end Go.Proofs.Ythodfihdmhkgeaa.Chan
