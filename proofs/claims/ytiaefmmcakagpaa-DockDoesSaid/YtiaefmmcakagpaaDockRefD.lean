/- The walks of the dock's answer: Sweep. -/
import Derived.Test.YtiaefmmcakagpaaDockRefC
namespace Go.Proofs.Ytiaefmmcakagpaa.DockRef
set_option linter.unusedSimpArgs false
set_option linter.unusedVariables false
open Go Go.RowKit Go.Proofs.Ytiaefmmcakagpaa
attribute [local irreducible] Calls

theorem keep_len {p : Int → Bool} {l : List Int} (h : l.length ≤ 100000) (j : Nat) : ((l.take j).filter p).length ≤ 100000 :=
  Nat.le_trans (List.length_filter_le _ _) (by rw [List.length_take]; omega)
theorem keep_next {p : Int → Bool} {l : List Int} {j : Nat} (hj : j < l.length) : (l.take (j + 1)).filter p = (l.take j).filter p ++ (if p l[j] then [l[j]] else []) := by
  rw [List.take_succ_eq_append_getElem hj, List.filter_append]
  congr 1
  simp [List.filter_cons]
set_option maxRecDepth 100000 in
set_option maxHeartbeats 1000000 in
theorem rsweep_st {W w : World} {S0 : Nat → Prop} {r : List Asn} (d : Nat) (most n : Int) (l : List Int) (hl : l.length ≤ 100000) (H : St W S0 w (refD d most l :: r)) :
    Calls Try.prog 60 #[.pointer (some ⟨d, 0, none⟩), .int .i64 n] w (fun e w' => ∃ v, e = .returned v ∧ St W S0 w' (rowA 1 v (l.filter fun y => decide (y < n)).length (i64s (l.filter fun y => decide (y < n))) :: refD d most (l.filter fun y => !decide (y < n)) :: r)) := by
  obtain ⟨i0, hi, hz, hz1, hz2⟩ := info_parts DelInt.el_info
  obtain ⟨a, cap, H1⟩ := refD_open H
  have H2 := (H1.row_nil (size := 1)).row_nil (size := 1)
  clear H H1
  replace H2 := Lib.hid H2
  go_enter Try.func60, Try.ntmps60
  go_wp2_with fail
  go_loopg [5, 6, 7] l.length (fun g v5 v6 v7 wr => ∃ (j : Nat) (oa : Option Addr) (oc : Nat) (ra : Option Addr) (rc : Nat), j ≤ l.length ∧ Hid (g = l.length - j) ∧ v7 = .int .i64 j ∧ v5 = .slice oa ((l.take j).filter fun y => decide (y < n)).length oc ∧ v6 = .slice ra ((l.take j).filter fun y => !decide (y < n)).length rc ∧
    Hid (St W S0 wr (rowA 1 (.slice oa ((l.take j).filter fun y => decide (y < n)).length oc) ((l.take j).filter fun y => decide (y < n)).length (i64s ((l.take j).filter fun y => decide (y < n))) :: rowA 1 (.slice ra ((l.take j).filter fun y => !decide (y < n)).length rc) ((l.take j).filter fun y => !decide (y < n)).length (i64s ((l.take j).filter fun y => !decide (y < n))) :: cellA d [.slice a l.length cap, .int .i64 most] :: readA 1 (.slice a l.length cap) l.length (i64s l) :: r)))
  case atStart => exact ⟨0, none, 0, none, 0, by omega, Lib.hid rfl, rfl, rfl, rfl, H2⟩
  case round =>
    obtain ⟨j, oa, oc, ra, rc, hj, hg, rfl, rfl, rfl, hst⟩ := hrel
    obtain ⟨z2, c2, f2⟩ := hst.out.box 2 rfl
    obtain ⟨hx1, _, _, e, hx2, hx3, hx4⟩ := St.reads 3 hst.out rfl
    cases e
    clear H2
    have hR : Rd wr a (i64s l) := St.reads_rd 3 hst.out rfl
    unfold maxLen at hx3
    by_cases hjn : j < l.length
    · obtain ⟨b, off, rfl, hb, hc⟩ := Rd.cons hR (i64s_ne rfl hjn)
      have e0 := hc j _ (i64s_at hjn)
      have k1 := keep_next (p := fun y => decide (y < n)) hjn
      have k2 := keep_next (p := fun y => !decide (y < n)) hjn
      have s1 := keep_len (p := fun y => decide (y < n)) hl j
      have s2 := keep_len (p := fun y => !decide (y < n)) hl j
      have hjn' : (j : Int) < l.length := by omega
      clear hx1 hx4 hc hR
      by_cases hq : l[j] < n
      · have q1 : decide (l[j] < n) = true := decide_eq_true hq
        simp only [q1, Bool.not_true, Bool.false_eq_true, if_true, if_false, List.append_nil] at k1 k2
        generalize l[j] = u at *
        have HA := hst
        replace hq := Lib.hid hq; replace k1 := Lib.hid k1; replace k2 := Lib.hid k2
        go_wp2_with (at_builtin; (refine wpList_appS rfl (.tmp 26) (.tmp 34) _ rfl 3 i0 _ 1 8 Try.underlying34 hi hz hz1 hz2 rfl (by omega) 0 _ ((l.take j).filter fun y => decide (y < n)).length (i64s ((l.take j).filter fun y => decide (y < n))) rfl hst.out rfl 1 1 [.int .i64 u] rfl rfl (by simp [Value.oneCell']) (by omega) (by omega) ?_; intro v6 w6 H6; obtain ⟨ga6, cap6, rfl, _⟩ := St.slice (by omega) 0 H6 rfl; replace H6 := Lib.hid H6))
        go_roundg (l.length - (j + 1))
        case measure => have := hg.out; omega
        case rel =>
          refine ⟨j + 1, ga6, cap6, ra, rc, by omega, Lib.hid rfl, by go_num, ?_, ?_, ?_⟩
          · rw [k1.out, List.length_append]; rfl
          · rw [k2.out]
          · rw [k1.out, k2.out, List.length_append]
            refine Lib.hid ?_
            rw [show i64s ((l.take j).filter (fun y => decide (y < n)) ++ [u]) = i64s ((l.take j).filter fun y => decide (y < n)) ++ [.int .i64 u] from by simp [i64s]]
            exact H6.out.arrN [0, 1] rfl
      · have q1 : decide (l[j] < n) = false := decide_eq_false hq
        simp only [q1, Bool.not_false, Bool.false_eq_true, if_true, if_false, List.append_nil] at k1 k2
        generalize l[j] = u at *
        replace hq := Lib.hid hq; replace k1 := Lib.hid k1; replace k2 := Lib.hid k2
        go_wp2_with (at_builtin; (refine wpList_appS rfl (.tmp 36) (.tmp 44) _ rfl 3 i0 _ 1 8 Try.underlying34 hi hz hz1 hz2 rfl (by omega) 1 _ ((l.take j).filter fun y => !decide (y < n)).length (i64s ((l.take j).filter fun y => !decide (y < n))) rfl hst.out rfl 1 1 [.int .i64 u] rfl rfl (by simp [Value.oneCell']) (by omega) (by omega) ?_; intro v6 w6 H6; obtain ⟨ga6, cap6, rfl, _⟩ := St.slice (by omega) 0 H6 rfl; replace H6 := Lib.hid H6))
        go_roundg (l.length - (j + 1))
        case measure => have := hg.out; omega
        case rel =>
          refine ⟨j + 1, oa, oc, ga6, cap6, by omega, Lib.hid rfl, by go_num, ?_, ?_, ?_⟩
          · rw [k1.out]
          · rw [k2.out, List.length_append]; rfl
          · rw [k1.out, k2.out, List.length_append]
            refine Lib.hid ?_
            rw [show i64s ((l.take j).filter (fun y => !decide (y < n)) ++ [u]) = i64s ((l.take j).filter fun y => !decide (y < n)) ++ [.int .i64 u] from by simp [i64s]]
            exact H6.out.arrN [1, 0] rfl
    · have hj2 : l.take j = l := List.take_of_length_le (by omega)
      rw [hj2] at hst
      have hjl : j = l.length := by omega
      have hF : j = l.length := hjl
      clear hx1 hx4 hR
      replace hF := Lib.hid hF
      replace hst := Lib.hid hst; replace hjl := Lib.hid hjl
      simp only [hj2]
      replace hj2 := Lib.hid hj2
      go_wp2_with fail
      go_ret
      have H7 := ((((hst.out.set 2 rfl 0 (.slice ra (l.filter fun y => !decide (y < n)).length rc) (by simp)).to_read 2 rfl)).arrN [1, 0, 2, 3] rfl).drop 3 rfl
      exact ⟨_, rfl, (refD_shut rfl H7).arrN [1, 0] rfl⟩
end Go.Proofs.Ytiaefmmcakagpaa.DockRef
