
/- With data or without: The walks of heard.Got, Has, Wants, Vector; of the answer At. -/
import Derived.Test.YtpajedpkdfacoaaHeardGotF
namespace Go.Proofs.Ytpajedpkdfacoaa.Heard
set_option linter.unusedSimpArgs false
set_option linter.unusedVariables false
open Go Go.RowKit Go.Proofs.Ytpajedpkdfacoaa Go.Proofs.Ytpajedpkdfacoaa.Circ
attribute [local irreducible] Calls

/-- Got, once the newest is moved. -/
def restD (h : Hd) (s : Int) (dt : Bool) : Hd × Bool :=
  if backB h s = true then (if h.came.getD (farC h.newest s).toNat false = true then (h, false) else (⟨h.newest, h.came.set (farC h.newest s).toNat true, h.untold + (if dt then 1 else 0), h.ticks⟩, true)) else (h, false)
def gotD (h : Hd) (s : Int) (dt : Bool) : Hd × Bool := restD (if 0 < farC s h.newest then moveH h s (farC s h.newest).toNat else h) s dt
set_option maxRecDepth 100000 in
set_option maxHeartbeats 400000 in
theorem gotD_any (d : Nat) (h : Hd) (s : Int) (dt : Bool) (w : World) (S : Nat → Prop) (H : (heardA d h).holds w S) (hl : h.came.length ≤ 128) (hu : 0 ≤ h.untold ∧ h.untold ≤ 1000000) :
    Calls Try.prog 85 #[.pointer (some ⟨d, 0, none⟩), .int .i64 s, .bool dt] w (Fin w S (.bool (gotD h s dt).2) [heardA d (gotD h s dt).1]) := by
  obtain ⟨u0, u1⟩ := hu
  have H0 : St w S w [heardA d h] := St.start (Sep.one H)
  have F := fun W => far_any s h.newest W
  have hf := farC_bd s h.newest
  unfold gotD
  obtain ⟨g0, H1⟩ := heard_parts H0
  obtain ⟨z, c, f⟩ := H1.box 0 rfl
  unfold hdV at c
  by_cases h0 : 0 < farC s h.newest
  · rw [if_pos h0]
    obtain ⟨n, hn⟩ : ∃ n : Nat, farC s h.newest = n := ⟨(farC s h.newest).toNat, by omega⟩
    have M := fun W SX hSX => move_any d h s n W SX hSX hl hn
    rw [hn] at F h0
    rw [hn, Int.toNat_natCast]
    have hle := move_le h s n
    have u2 : (moveH h s n).untold = h.untold := rfl
    rw [← u2] at u0 u1
    clear u2
    have q : decide (0 < (n : Int)) = true := decide_eq_true h0
    obtain ⟨hh, hhh⟩ : ∃ x, x = moveH h s n := ⟨_, rfl⟩
    rw [← hhh] at M hle u0 u1
    rw [← hhh]
    clear hhh H H1 hf hn
    replace H0 := Lib.hid H0; replace F := Lib.hid F; replace M := Lib.hid M
    go_enter Try.func85, Try.ntmps85
    go_wp2_with fail
    refine Calls.mono (F.out _) ?_
    rintro e w1 ⟨rfl, hb1⟩
    have H1 := H0.out.thru hb1
    obtain ⟨SX, hSX, _, cX⟩ := H1.at 0 rfl
    have M' := Lib.hid (M.out _ SX hSX)
    replace cX := Lib.hid cX
    clear H0 M F H1 hSX
    go_wp2_with fail
    refine Calls.mono M'.out ?_
    rintro e w2 ⟨rfl, hb2⟩
    have HT := Lib.hid (cX.out _ _ hb2)
    simp only [List.cons_append, List.nil_append, List.eraseIdx_cons_zero] at HT
    clear cX hb2 M'
    obtain ⟨SX, hSX, _, _⟩ := HT.out.at 0 rfl
    have P := fun W => place_any d hh s W
    replace P := P _ SX hSX hle
    clear hSX
    cases hb : backB hh s with
    | false =>
      have hr : restD hh s dt = (hh, false) := by unfold restD; rw [hb]; rfl
      rw [hb] at P
      replace hr := Lib.hid hr
      clear hb
      replace P := Lib.hid P
      go_wp2_with fail
      refine Calls.mono P.out ?_
      rintro e w7 ⟨rfl, hb7⟩
      have H7 := Lib.hid (HT.out.thru hb7)
      clear HT P
      go_wp2_with fail
      go_ret
      rw [hr.out]
      exact ⟨rfl, H7.out⟩
    | true =>
      obtain ⟨k, hk, hkl⟩ := back_at hb
      rw [hb, hk] at P
      cases hc : hh.came.getD k false with
      | true =>
        have hr : restD hh s dt = (hh, false) := by unfold restD; rw [hb, hk, Int.toNat_natCast, hc]; rfl
        replace P := Lib.hid P
        replace hr := Lib.hid hr
        clear hb hk
        go_wp2_with fail
        refine Calls.mono P.out ?_
        rintro e w7 ⟨rfl, hb7⟩
        have H7 := HT.out.thru hb7
        clear HT P
        obtain ⟨g, H8⟩ := heard_parts H7
        obtain ⟨z8, k8, f8⟩ := H8.box 0 rfl
        have zg := (H8.box 1 rfl).lt
        have e8 := (H8.box 1 rfl).cells k
        rw [bools_at hkl, getD_at hkl hc] at e8
        unfold hdV at k8
        replace H7 := Lib.hid H7
        clear H8 hc
        go_wp2_with fail
        go_ret
        rw [hr.out]
        exact ⟨rfl, H7.out⟩
      | false =>
        have hr : restD hh s dt = (⟨hh.newest, hh.came.set k true, hh.untold + (if dt then 1 else 0), hh.ticks⟩, true) := by unfold restD; rw [hb, hk, Int.toNat_natCast, hc]; rfl
        replace P := Lib.hid P
        clear hb hk
        cases dt with
        | true =>
          simp only [if_true] at hr
          replace hr := Lib.hid hr
          go_wp2_with fail
          refine Calls.mono P.out ?_
          rintro e w7 ⟨rfl, hb7⟩
          have H7 := HT.out.thru hb7
          clear HT P
          obtain ⟨g, H8⟩ := heard_parts H7
          obtain ⟨z8, k8, f8⟩ := H8.box 0 rfl
          obtain ⟨zg, kg, fg⟩ := H8.box 1 rfl
          have hne : ¬ d = g := H8.ne_cells 0 1 rfl rfl (by omega)
          have hne' : ¬ g = d := fun e => hne e.symm
          have e8 := kg k
          rw [bools_at hkl, getD_at hkl hc] at e8
          unfold hdV at k8 H8
          have H9 := (H8.set 1 rfl k (.bool true) (by rw [bools_len]; exact hkl)).set 1 rfl 2 (.int .i64 (hh.untold + 1)) (by simp)
          have hset : (bools hh.came).set k (.bool true) = bools (hh.came.set k true) := by unfold bools; rw [List.map_set]
          rw [hset] at H9
          replace H9 := Lib.hid H9
          clear H7 H8 hc kg hset
          go_wp2_with fail
          go_ret
          rw [hr.out]
          exact ⟨rfl, heard_shut (h := ⟨hh.newest, hh.came.set k true, hh.untold + 1, hh.ticks⟩) (r := []) (by unfold hdV; rw [List.length_set]; exact H9.out)⟩
        | false =>
          simp only [Bool.false_eq_true, if_false, Int.add_zero] at hr
          replace hr := Lib.hid hr
          go_wp2_with fail
          refine Calls.mono P.out ?_
          rintro e w7 ⟨rfl, hb7⟩
          have H7 := HT.out.thru hb7
          clear HT P
          obtain ⟨g, H8⟩ := heard_parts H7
          obtain ⟨z8, k8, f8⟩ := H8.box 0 rfl
          obtain ⟨zg, kg, fg⟩ := H8.box 1 rfl
          have hne : ¬ d = g := H8.ne_cells 0 1 rfl rfl (by omega)
          have hne' : ¬ g = d := fun e => hne e.symm
          have e8 := kg k
          rw [bools_at hkl, getD_at hkl hc] at e8
          unfold hdV at k8 H8
          have H9 := (H8.set 1 rfl k (.bool true) (by rw [bools_len]; exact hkl)).arr [1, 0] rfl
          have hset : (bools hh.came).set k (.bool true) = bools (hh.came.set k true) := by unfold bools; rw [List.map_set]
          rw [hset] at H9
          replace H9 := Lib.hid H9
          clear H7 H8 hc kg hset
          go_wp2_with fail
          go_ret
          rw [hr.out]
          exact ⟨rfl, heard_shut (h := ⟨hh.newest, hh.came.set k true, hh.untold, hh.ticks⟩) (r := []) (by unfold hdV; rw [List.length_set]; exact H9.out)⟩
  · rw [if_neg h0]
    have q : decide (0 < farC s h.newest) = false := decide_eq_false h0
    obtain ⟨hh, hhh⟩ : ∃ x, x = h := ⟨_, rfl⟩
    subst hhh
    have hle := hl
    clear H H1 hf
    replace H0 := Lib.hid H0; replace F := Lib.hid F
    go_enter Try.func85, Try.ntmps85
    go_wp2_with fail
    refine Calls.mono (F.out _) ?_
    rintro e w1 ⟨rfl, hb1⟩
    have HT := Lib.hid (H0.out.thru hb1)
    clear H0 F
    obtain ⟨SX, hSX, _, _⟩ := HT.out.at 0 rfl
    have P := fun W => place_any d hh s W
    replace P := P _ SX hSX hle
    clear hSX
    cases hb : backB hh s with
    | false =>
      have hr : restD hh s dt = (hh, false) := by unfold restD; rw [hb]; rfl
      rw [hb] at P
      replace hr := Lib.hid hr
      clear hb
      replace P := Lib.hid P
      go_wp2_with fail
      refine Calls.mono P.out ?_
      rintro e w7 ⟨rfl, hb7⟩
      have H7 := Lib.hid (HT.out.thru hb7)
      clear HT P
      go_wp2_with fail
      go_ret
      rw [hr.out]
      exact ⟨rfl, H7.out⟩
    | true =>
      obtain ⟨k, hk, hkl⟩ := back_at hb
      rw [hb, hk] at P
      cases hc : hh.came.getD k false with
      | true =>
        have hr : restD hh s dt = (hh, false) := by unfold restD; rw [hb, hk, Int.toNat_natCast, hc]; rfl
        replace P := Lib.hid P
        replace hr := Lib.hid hr
        clear hb hk
        go_wp2_with fail
        refine Calls.mono P.out ?_
        rintro e w7 ⟨rfl, hb7⟩
        have H7 := HT.out.thru hb7
        clear HT P
        obtain ⟨g, H8⟩ := heard_parts H7
        obtain ⟨z8, k8, f8⟩ := H8.box 0 rfl
        have zg := (H8.box 1 rfl).lt
        have e8 := (H8.box 1 rfl).cells k
        rw [bools_at hkl, getD_at hkl hc] at e8
        unfold hdV at k8
        replace H7 := Lib.hid H7
        clear H8 hc
        go_wp2_with fail
        go_ret
        rw [hr.out]
        exact ⟨rfl, H7.out⟩
      | false =>
        have hr : restD hh s dt = (⟨hh.newest, hh.came.set k true, hh.untold + (if dt then 1 else 0), hh.ticks⟩, true) := by unfold restD; rw [hb, hk, Int.toNat_natCast, hc]; rfl
        replace P := Lib.hid P
        clear hb hk
        cases dt with
        | true =>
          simp only [if_true] at hr
          replace hr := Lib.hid hr
          go_wp2_with fail
          refine Calls.mono P.out ?_
          rintro e w7 ⟨rfl, hb7⟩
          have H7 := HT.out.thru hb7
          clear HT P
          obtain ⟨g, H8⟩ := heard_parts H7
          obtain ⟨z8, k8, f8⟩ := H8.box 0 rfl
          obtain ⟨zg, kg, fg⟩ := H8.box 1 rfl
          have hne : ¬ d = g := H8.ne_cells 0 1 rfl rfl (by omega)
          have hne' : ¬ g = d := fun e => hne e.symm
          have e8 := kg k
          rw [bools_at hkl, getD_at hkl hc] at e8
          unfold hdV at k8 H8
          have H9 := (H8.set 1 rfl k (.bool true) (by rw [bools_len]; exact hkl)).set 1 rfl 2 (.int .i64 (hh.untold + 1)) (by simp)
          have hset : (bools hh.came).set k (.bool true) = bools (hh.came.set k true) := by unfold bools; rw [List.map_set]
          rw [hset] at H9
          replace H9 := Lib.hid H9
          clear H7 H8 hc kg hset
          go_wp2_with fail
          go_ret
          rw [hr.out]
          exact ⟨rfl, heard_shut (h := ⟨hh.newest, hh.came.set k true, hh.untold + 1, hh.ticks⟩) (r := []) (by unfold hdV; rw [List.length_set]; exact H9.out)⟩
        | false =>
          simp only [Bool.false_eq_true, if_false, Int.add_zero] at hr
          replace hr := Lib.hid hr
          go_wp2_with fail
          refine Calls.mono P.out ?_
          rintro e w7 ⟨rfl, hb7⟩
          have H7 := HT.out.thru hb7
          clear HT P
          obtain ⟨g, H8⟩ := heard_parts H7
          obtain ⟨z8, k8, f8⟩ := H8.box 0 rfl
          obtain ⟨zg, kg, fg⟩ := H8.box 1 rfl
          have hne : ¬ d = g := H8.ne_cells 0 1 rfl rfl (by omega)
          have hne' : ¬ g = d := fun e => hne e.symm
          have e8 := kg k
          rw [bools_at hkl, getD_at hkl hc] at e8
          unfold hdV at k8 H8
          have H9 := (H8.set 1 rfl k (.bool true) (by rw [bools_len]; exact hkl)).arr [1, 0] rfl
          have hset : (bools hh.came).set k (.bool true) = bools (hh.came.set k true) := by unfold bools; rw [List.map_set]
          rw [hset] at H9
          replace H9 := Lib.hid H9
          clear H7 H8 hc kg hset
          go_wp2_with fail
          go_ret
          rw [hr.out]
          exact ⟨rfl, heard_shut (h := ⟨hh.newest, hh.came.set k true, hh.untold, hh.ticks⟩) (r := []) (by unfold hdV; rw [List.length_set]; exact H9.out)⟩
end Go.Proofs.Ytpajedpkdfacoaa.Heard
