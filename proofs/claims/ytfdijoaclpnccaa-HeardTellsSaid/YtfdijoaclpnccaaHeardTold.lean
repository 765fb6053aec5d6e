/- The walks of heard.Has, Wants, Vector; of the answer At. -/
import Derived.Test.YtfdijoaclpnccaaHeardGot
namespace Go.Proofs.Ytfdijoaclpnccaa.Heard
set_option linter.unusedSimpArgs false
set_option linter.unusedVariables false
open Go Go.RowKit Go.Proofs.Ytfdijoaclpnccaa Go.Proofs.Ytfdijoaclpnccaa.Circ
attribute [local irreducible] Calls

def hasH (h : Hd) (s : Int) : Bool := backB h s && h.came.getD (farC h.newest s).toNat false
set_option maxRecDepth 100000 in
theorem has_any (d : Nat) (h : Hd) (s : Int) (w : World) (S : Nat → Prop) (H : (heardA d h).holds w S) (hl : h.came.length ≤ 128) :
    Calls Try.prog 82 #[.pointer (some ⟨d, 0, none⟩), .int .i64 s] w (Ret w (.bool (hasH h s))) := by
  have P := fun W SX hSX => place_any d h s W SX hSX hl
  have H0 : St w S w [heardA d h] := St.start (Sep.one H)
  replace P := P w S H
  obtain ⟨g, H1⟩ := heard_open H
  have H2 := H1.box 0 rfl
  have H3 := H1.box 1 rfl
  unfold hdV at H2
  unfold hasH
  clear H H0 H1
  cases hb : backB h s with
  | false =>
    rw [hb] at P
    replace P := Lib.hid P
    go_enter Try.func82, Try.ntmps82
    go_wp2_with fail
    refine Calls.mono P.out ?_
    rintro e w7 ⟨rfl, hb7⟩
    clear P
    go_wp2_with fail
    go_ret
    exact Ret.mk rfl (by repeat (first | with_reducible exact Below.refl _ _ | (with_reducible refine Below.al ?_) | (with_reducible refine Below.drew ?_) | (with_reducible refine Below.set ?_ (by first | (simp; done) | omega | (simp; omega))) | (with_reducible refine Below.thru ?_ (by assumption)) | (with_reducible refine Below.chg ?_ (by assumption) (by first | (simp; done) | omega | (simp; omega)))))
  | true =>
    obtain ⟨k, hk, hkl⟩ := back_at hb
    rw [hb, hk] at P
    rw [hk, Int.toNat_natCast]
    obtain ⟨b, hc⟩ : ∃ b, h.came.getD k false = b := ⟨_, rfl⟩
    rw [hc]
    replace P := Lib.hid P
    clear hb hk
    go_enter Try.func82, Try.ntmps82
    go_wp2_with fail
    refine Calls.mono P.out ?_
    rintro e w7 ⟨rfl, hb7⟩
    obtain ⟨z8, k8, f8⟩ := H2.below hb7
    obtain ⟨zg, kg, fg⟩ := H3.below hb7
    have e8 := kg k
    rw [bools_at hkl, getD_at hkl hc] at e8
    clear H2 H3 kg hc P
    go_wp2_with fail
    go_ret
    exact Ret.mk rfl (by repeat (first | with_reducible exact Below.refl _ _ | (with_reducible refine Below.al ?_) | (with_reducible refine Below.drew ?_) | (with_reducible refine Below.set ?_ (by first | (simp; done) | omega | (simp; omega))) | (with_reducible refine Below.thru ?_ (by assumption)) | (with_reducible refine Below.chg ?_ (by assumption) (by first | (simp; done) | omega | (simp; omega)))))
theorem wants_one (d : Nat) (n : Int) (c : List Bool) (w : World) (S : Nat → Prop) (H : (heardA d ⟨n, c, 1, 0⟩).holds w S) :
    Calls Try.prog 83 #[.pointer (some ⟨d, 0, none⟩), .int .i64 1] w (Ret w (.bool true)) := by
  obtain ⟨g, H1⟩ := heard_open H
  obtain ⟨z, k, f⟩ := H1.box 0 rfl
  unfold hdV at k
  clear H H1
  go_enter Try.func83, Try.ntmps83
  go_wp2_with fail
  go_ret
  exact Ret.mk rfl (by repeat (first | with_reducible exact Below.refl _ _ | (with_reducible refine Below.al ?_) | (with_reducible refine Below.drew ?_) | (with_reducible refine Below.set ?_ (by first | (simp; done) | omega | (simp; omega))) | (with_reducible refine Below.thru ?_ (by assumption)) | (with_reducible refine Below.chg ?_ (by assumption) (by first | (simp; done) | omega | (simp; omega)))))
theorem wants_two (d : Nat) (n : Int) (c : List Bool) (w : World) (S : Nat → Prop) (H : (heardA d ⟨n, c, 1, 0⟩).holds w S) :
    Calls Try.prog 83 #[.pointer (some ⟨d, 0, none⟩), .int .i64 2] w (Ret w (.bool false)) := by
  obtain ⟨g, H1⟩ := heard_open H
  obtain ⟨z, k, f⟩ := H1.box 0 rfl
  unfold hdV at k
  clear H H1
  go_enter Try.func83, Try.ntmps83
  go_wp2_with fail
  go_ret
  exact Ret.mk rfl (by repeat (first | with_reducible exact Below.refl _ _ | (with_reducible refine Below.al ?_) | (with_reducible refine Below.drew ?_) | (with_reducible refine Below.set ?_ (by first | (simp; done) | omega | (simp; omega))) | (with_reducible refine Below.thru ?_ (by assumption)) | (with_reducible refine Below.chg ?_ (by assumption) (by first | (simp; done) | omega | (simp; omega)))))

/-- What is told of packets. -/
def toldB (b : Bool) : Int := if b then 0 else 3
def toldL (l : List Bool) : List Int := l.map toldB
theorem told_take {l : List Bool} {j : Nat} (h : j < l.length) : toldL (l.take (j + 1)) = toldL (l.take j) ++ [toldB l[j]] := by
  unfold toldL
  rw [List.take_succ_eq_append_getElem h, List.map_append]
  rfl
theorem i64s_app (l : List Int) (n : Int) : i64s l ++ [Value.int .i64 n] = i64s (l ++ [n]) := by simp [i64s]
set_option maxRecDepth 100000 in
set_option maxHeartbeats 400000 in
theorem vector_any (d : Nat) (h : Hd) (w : World) (S : Nat → Prop) (H : (heardA d h).holds w S) (hl : h.came.length ≤ 128) :
    Calls Try.prog 41 #[.pointer (some ⟨d, 0, none⟩)] w (fun e w' => ∃ v, e = .returned v ∧ St w none0 w' [rowA 2 v (Avec.ofL (toldL h.came)).length (Avec.runs (Avec.ofL (toldL h.came)))]) := by
  obtain ⟨i0, hi, hz, hz1, hz2⟩ := info_parts Avec.int_info
  obtain ⟨g, H1⟩ := heard_open H
  obtain ⟨z, k, f⟩ := H1.box 0 rfl
  have G := H1.box 1 rfl
  unfold hdV at k
  clear H H1
  go_enter Try.func41, Try.ntmps41
  go_wp2_with fail
  go_loopg [3, 5, 6, 14] h.came.length (fun gg lv _ _ i wr => ∃ j : Nat, j ≤ h.came.length ∧ gg = h.came.length - j ∧ i = .int .i64 j ∧ St w none0 wr [rowA 1 lv (toldL (h.came.take j)).length (i64s (toldL (h.came.take j)))])
  case atStart => exact ⟨0, by omega, by omega, rfl, (St.zero w).row_nil⟩
  case round =>
    obtain ⟨lv, hlv⟩ : ∃ v, v = u3 := ⟨_, rfl⟩
    subst hlv
    obtain ⟨j, hj, hg, rfl, hst⟩ := hrel
    have hll : (toldL (h.came.take j)).length = j := by simp [toldL]; omega
    by_cases hlt : j < h.came.length
    · have hnx := told_take hlt
      obtain ⟨zg, kg, fg⟩ := G.below hst.below
      have e0 := kg j
      rw [bools_at hlt] at e0
      clear kg fg
      cases e1 : h.came[j] with
      | true =>
        rw [e1] at e0
        rw [e1] at hnx
        have e9 : toldB true = 0 := rfl
        rw [e9] at hnx
        replace hst := Lib.hid hst; replace hnx := Lib.hid hnx
        go_wp2_with (at_builtin; (refine wpList_appS rfl (.tmp 19) (.tmp 21) _ rfl 3 i0 _ 1 8 Try.underlying71 hi hz hz1 hz2 rfl (by omega) 0 lv _ _ rfl hst.out rfl 1 1 [.int .i64 0] rfl rfl (by simp [Value.oneCell']) (by omega) (by omega) ?_; intro wv5 w5 H5; rw [i64s_app, ← hnx.out] at H5; replace H5 := Lib.hid H5))
        go_roundg (h.came.length - (j + 1))
        case measure => omega
        case rel => exact ⟨j + 1, by omega, rfl, by go_num, by rw [hnx.out, List.length_append]; rw [hnx.out] at H5; exact H5.out⟩
      | false =>
        rw [e1] at e0
        rw [e1] at hnx
        have e9 : toldB false = 3 := rfl
        rw [e9] at hnx
        replace hst := Lib.hid hst; replace hnx := Lib.hid hnx
        go_wp2_with (at_builtin; (refine wpList_appS rfl (.tmp 19) (.tmp 21) _ rfl 3 i0 _ 1 8 Try.underlying71 hi hz hz1 hz2 rfl (by omega) 0 lv _ _ rfl hst.out rfl 1 1 [.int .i64 3] rfl rfl (by simp [Value.oneCell']) (by omega) (by omega) ?_; intro wv5 w5 H5; rw [i64s_app, ← hnx.out] at H5; replace H5 := Lib.hid H5))
        go_roundg (h.came.length - (j + 1))
        case measure => omega
        case rel => exact ⟨j + 1, by omega, rfl, by go_num, by rw [hnx.out, List.length_append]; rw [hnx.out] at H5; exact H5.out⟩
    · obtain rfl : j = h.came.length := by omega
      rw [List.take_length] at hst hll
      rw [hll] at hst
      obtain ⟨a, cap, rfl, _, _, hr⟩ := (hst.row 0 rfl).rd (by omega)
      have P := Avec.of_any (toldL h.came) h.came.length hll (by omega) a cap wr hr
      clear hr
      replace hst := Lib.hid hst; replace P := Lib.hid P
      go_wp2_with fail
      refine Calls.mono P.out ?_
      rintro e w9 ⟨v, rfl, H9⟩
      have H10 := (hst.out.add H9).drop 1 rfl
      replace H10 := Lib.hid H10
      clear hst P H9
      go_wp2_with fail
      go_ret
      exact ⟨_, rfl, H10.out⟩


set_option maxRecDepth 100000 in
set_option maxHeartbeats 400000 in
theorem at_any (f s x : Int) (l : List Avec.Run) (n : Nat) (hn : l.length = n) (hb : n ≤ 1000000) (a : Option Addr) (cap : Nat) (w : World) (h : Rd w a (Avec.runs l)) (hf : 0 ≤ f ∧ f ≤ 281474976710656)
    (h1 : ∀ j (hj : j < (Avec.statesL l).length), ofC (f - j) = ofC s → x = (Avec.statesL l)[j]) (h2 : (∀ j, j < (Avec.statesL l).length → ofC (f - j) ≠ ofC s) → x = 3) :
    Calls Try.prog 42 #[.int .i64 f, .slice a n cap, .int .i64 s] w (Ret w (.int .i64 x)) := by
  have P := fun W hW => Avec.states_ref l n hn hb a cap W hW
  have hL : (Avec.statesL l).length ≤ 64 * n := by rw [← hn]; exact Avec.states_len l
  replace P := P w h
  clear h hn
  generalize Avec.statesL l = L at *
  obtain ⟨f0, f1⟩ := hf
  have hfo : ∀ j : Nat, j < L.length → ofC (ofC f - j) = ofC (f - j) := fun j _ => by unfold ofC; omega
  obtain ⟨c0, c1⟩ := ofC_bd f
  replace P := Lib.hid P; replace h1 := Lib.hid h1; replace h2 := Lib.hid h2; replace hfo := Lib.hid hfo
  go_enter Try.func42, Try.ntmps42
  go_wp2_with fail
  refine Calls.mono P.out ?_
  rintro e w1 ⟨v, rfl, H1⟩
  clear P
  obtain ⟨a1, cap1, rfl, hm1, _, R1⟩ := (H1.row 0 rfl).rd (by omega)
  unfold maxLen at hm1
  have hbw := H1.below
  clear H1
  replace R1 := Lib.hid R1
  go_wp2_with fail
  go_loopg [8] L.length (fun gg i wr => ∃ j : Nat, j ≤ L.length ∧ gg = L.length - j ∧ i = .int .i64 j ∧ Hid (∀ q, q < j → ofC (f - q) ≠ ofC s) ∧ Below w1.heap.size w1 wr)
  case atStart => exact ⟨0, by omega, by omega, rfl, (fun q hq => by omega), (by repeat (first | with_reducible exact Below.refl _ _ | (with_reducible refine Below.al ?_) | (with_reducible refine Below.drew ?_) | (with_reducible refine Below.set ?_ (by first | (simp; done) | omega | (simp; omega))) | (with_reducible refine Below.thru ?_ (by assumption)) | (with_reducible refine Below.chg ?_ (by assumption) (by first | (simp; done) | omega | (simp; omega)))))⟩
  case round =>
    obtain ⟨j, hj, hg, rfl, hno, hbr⟩ := hrel
    by_cases hlt : j < L.length
    · obtain ⟨b, off, rfl, hb2, hc⟩ := Avec.ints_cell (R1.out.below hbr) rfl (by omega)
      have e0 := hc j hlt
      have ef := hfo.out j hlt
      have E0 := fun W => rof_any f W
      have E1 := fun W => rof_any (ofC f - j) W
      have E2 := fun W => rof_any s W
      rw [ef] at E1
      clear hc ef
      by_cases hq : ofC (f - j) = ofC s
      · have hx := h1.out j hlt hq
        rw [← hx] at e0
        have q : (ofC (f - j) == ofC s) = true := by simpa using hq
        generalize ofC (f - j) = y at *
        generalize ofC s = y2 at *
        replace E0 := Lib.hid E0; replace E1 := Lib.hid E1; replace E2 := Lib.hid E2; replace hq := Lib.hid hq; replace hx := Lib.hid hx
        go_wp2_with fail
        refine Calls.mono (E0.out _) ?_
        rintro e w1 ⟨rfl, hb1⟩
        have z1 := Below.size hb1; try simp only [World.size_alloc, World.size_setCell, World.size_drew] at z1
        obtain ⟨c1_0, f1_0⟩ := Below.blk hb1 (b := b) (by first | (simp; done) | omega | (simp; omega))
        have z1_0 : b < w1.heap.size := (by first | (simp; done) | omega | (simp; omega))
        go_wp2_with fail
        refine Calls.mono (E1.out _) ?_
        rintro e w2 ⟨rfl, hb2⟩
        have z2 := Below.size hb2; try simp only [World.size_alloc, World.size_setCell, World.size_drew] at z2
        obtain ⟨c2_0, f2_0⟩ := Below.blk hb2 (b := b) (by first | (simp; done) | omega | (simp; omega))
        have z2_0 : b < w2.heap.size := (by first | (simp; done) | omega | (simp; omega))
        go_wp2_with fail
        refine Calls.mono (E2.out _) ?_
        rintro e w3 ⟨rfl, hb3⟩
        have z3 := Below.size hb3; try simp only [World.size_alloc, World.size_setCell, World.size_drew] at z3
        obtain ⟨c3_0, f3_0⟩ := Below.blk hb3 (b := b) (by first | (simp; done) | omega | (simp; omega))
        have z3_0 : b < w3.heap.size := (by first | (simp; done) | omega | (simp; omega))
        clear E0 E1 E2
        go_wp2_with fail
        go_ret
        exact Ret.mk rfl (by repeat (first | with_reducible exact Below.refl _ _ | (with_reducible refine Below.al ?_) | (with_reducible refine Below.drew ?_) | (with_reducible refine Below.set ?_ (by first | (simp; done) | omega | (simp; omega))) | (with_reducible refine Below.thru ?_ (by assumption)) | (with_reducible refine Below.chg ?_ (by assumption) (by first | (simp; done) | omega | (simp; omega)))))
      · have q : (ofC (f - j) == ofC s) = false := by simpa using hq
        have hno' : ∀ q, q < j + 1 → ofC (f - q) ≠ ofC s := fun q hq2 => by
          by_cases e : q = j
          · subst e; exact hq
          · exact hno.out q (by omega)
        generalize hy : ofC (f - j) = y at *
        generalize hy2 : ofC s = y2 at *
        replace E0 := Lib.hid E0; replace E1 := Lib.hid E1; replace E2 := Lib.hid E2; replace hq := Lib.hid hq; replace hno' := Lib.hid hno'; replace hy := Lib.hid hy; replace hy2 := Lib.hid hy2
        go_wp2_with fail
        refine Calls.mono (E0.out _) ?_
        rintro e w1 ⟨rfl, hb1⟩
        have z1 := Below.size hb1; try simp only [World.size_alloc, World.size_setCell, World.size_drew] at z1
        obtain ⟨c1_0, f1_0⟩ := Below.blk hb1 (b := b) (by first | (simp; done) | omega | (simp; omega))
        have z1_0 : b < w1.heap.size := (by first | (simp; done) | omega | (simp; omega))
        go_wp2_with fail
        refine Calls.mono (E1.out _) ?_
        rintro e w2 ⟨rfl, hb2⟩
        have z2 := Below.size hb2; try simp only [World.size_alloc, World.size_setCell, World.size_drew] at z2
        obtain ⟨c2_0, f2_0⟩ := Below.blk hb2 (b := b) (by first | (simp; done) | omega | (simp; omega))
        have z2_0 : b < w2.heap.size := (by first | (simp; done) | omega | (simp; omega))
        go_wp2_with fail
        refine Calls.mono (E2.out _) ?_
        rintro e w3 ⟨rfl, hb3⟩
        have z3 := Below.size hb3; try simp only [World.size_alloc, World.size_setCell, World.size_drew] at z3
        obtain ⟨c3_0, f3_0⟩ := Below.blk hb3 (b := b) (by first | (simp; done) | omega | (simp; omega))
        have z3_0 : b < w3.heap.size := (by first | (simp; done) | omega | (simp; omega))
        clear E0 E1 E2
        go_wp2_with fail
        go_roundg (L.length - (j + 1))
        case measure => omega
        case rel => exact ⟨j + 1, by omega, rfl, by go_num, hno', (by repeat (first | with_reducible exact Below.refl _ _ | (with_reducible refine Below.al ?_) | (with_reducible refine Below.drew ?_) | (with_reducible refine Below.set ?_ (by first | (simp; done) | omega | (simp; omega))) | (with_reducible refine Below.thru ?_ (by assumption)) | (with_reducible refine Below.chg ?_ (by assumption) (by first | (simp; done) | omega | (simp; omega)))))⟩
    · obtain rfl : j = L.length := by omega
      have hx := h2.out (fun q hq => hno.out q hq)
      replace hx := Lib.hid hx
      go_wp2_with fail
      go_ret
      exact Ret.mk (congrArg (Value.int .i64) hx.out.symm) (by repeat (first | with_reducible exact Below.refl _ _ | (with_reducible refine Below.al ?_) | (with_reducible refine Below.drew ?_) | (with_reducible refine Below.set ?_ (by first | (simp; done) | omega | (simp; omega))) | (with_reducible refine Below.thru ?_ (by assumption)) | (with_reducible refine Below.chg ?_ (by assumption) (by first | (simp; done) | omega | (simp; omega)))))
end Go.Proofs.Ytfdijoaclpnccaa.Heard
