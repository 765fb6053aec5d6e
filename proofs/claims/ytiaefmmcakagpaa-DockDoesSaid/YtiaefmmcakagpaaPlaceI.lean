/- The walks of slices.IndexFunc and of the dock's Place over ints. -/
import Derived.Test.YtiaefmmcakagpaaDockLaw
import Derived.Test.YtiaefmmcakagpaaInsInt
import Derived.Test.YtiaefmmcakagpaaFits
import Derived.Deep.LoopGhost
namespace Go.Proofs.Ytiaefmmcakagpaa.DockSInt
set_option linter.unusedSimpArgs false
set_option linter.unusedVariables false
open Go Go.RowKit Go.Proofs.Ytiaefmmcakagpaa Go.Proofs.Ytiaefmmcakagpaa.DelInt
open Go.Proofs.Ytiaefmmcakagpaa.DockLaw (encs_i64s)
attribute [local irreducible] Calls

set_option maxRecDepth 100000 in
set_option maxHeartbeats 400000 in
theorem index_any (l : List El) (n : Nat) (hl : l.length = n) (hn : n ≤ 1000000) (a : Option Addr) (cap : Nat) (w : World) (h : Rd w a (encs l)) (G : Nat) (caps : Array Value) (hG : ∀ args w, (callFunc G args).run Try.prog w = .ok (.enter G args) w) (pr : El → Bool)
    (hcall : ∀ (x : El) (w' : World), Below w.heap.size w w' → Calls Try.prog G (#[val x] ++ caps) w' (Ret w' (.bool (pr x)))) :
    Calls Try.prog 89 #[.slice a n cap, .func (.func G) #[] caps] w (Ret w (.int .i64 (idxF pr l))) := by
  rw [encs_i64s] at h
  replace h := Lib.hid h; replace hl := Lib.hid hl; replace hcall := Lib.hid hcall
  go_enter Try.func89, Try.ntmps89
  go_wp2_with fail
  go_loopg [5, 8] n (fun g _ i wr => ∃ j : Nat, j ≤ n ∧ g = n - j ∧ i = .int .i64 j ∧ Hid (∀ k (hk : k < l.length), k < j → pr l[k] = false) ∧ Below w.heap.size w wr)
  case atStart => exact ⟨0, by omega, by omega, rfl, (fun k hk h => by omega), (by repeat (first | with_reducible exact Below.refl _ _ | (with_reducible refine Below.al ?_) | (with_reducible refine Below.drew ?_) | (with_reducible refine Below.set ?_ (by first | (simp; done) | omega | (simp; omega))) | (with_reducible refine Below.thru ?_ (by assumption)) | (with_reducible refine Below.chg ?_ (by assumption) (by first | (simp; done) | omega | (simp; omega)))))⟩
  case round =>
    obtain ⟨j, hj, hg, rfl, hno, hbw⟩ := hrel
    by_cases hlt : j < n
    · have hjl : j < l.length := by have := hl.out; omega
      obtain ⟨b, off, rfl, hb, hc⟩ := Go.Proofs.Ytiaefmmcakagpaa.DockLaw.ints_at (h.out.below hbw) hl.out (by omega)
      have e0 := hc j hjl
      have P := hcall.out l[j] wr hbw
      unfold val at P
      have hit : pr l[j] = true → idxF pr l = (j : Int) := fun h => idx_some hjl h (fun k hk hkj => hno.out k hk hkj)
      have hnx : pr l[j] = false → ∀ k (hk : k < l.length), k < j + 1 → pr l[k] = false := fun h0 k hk h1 => by
        by_cases e : k = j
        · subst e; exact h0
        · exact hno.out k hk (by omega)
      clear hc
      cases hb0 : pr l[j] with
      | true =>
        rw [hb0] at P
        replace hit := Lib.hid (hit hb0)
        clear hnx
        generalize l[j] = x at *
        replace P := Lib.hid P; replace hb0 := Lib.hid hb0
        go_wp2_with fail
        refine Calls.mono (P.out) ?_
        rintro e w1 ⟨rfl, hb1⟩
        have z1 := Below.size hb1; try simp only [World.size_alloc, World.size_setCell, World.size_drew] at z1
        clear P
        go_wp2_with fail
        go_ret
        exact Ret.mk (by rw [hit.out]; rfl) (by repeat (first | with_reducible exact Below.refl _ _ | (with_reducible refine Below.al ?_) | (with_reducible refine Below.drew ?_) | (with_reducible refine Below.set ?_ (by first | (simp; done) | omega | (simp; omega))) | (with_reducible refine Below.thru ?_ (by assumption)) | (with_reducible refine Below.chg ?_ (by assumption) (by first | (simp; done) | omega | (simp; omega)))))
      | false =>
        rw [hb0] at P
        replace hnx := Lib.hid (hnx hb0)
        clear hit
        generalize l[j] = x at *
        replace P := Lib.hid P; replace hb0 := Lib.hid hb0
        go_wp2_with fail
        refine Calls.mono (P.out) ?_
        rintro e w1 ⟨rfl, hb1⟩
        have z1 := Below.size hb1; try simp only [World.size_alloc, World.size_setCell, World.size_drew] at z1
        clear P
        go_wp2_with fail
        go_roundg (n - (j + 1))
        case measure => omega
        case rel => exact ⟨j + 1, by omega, rfl, by go_num, hnx.out, (by repeat (first | with_reducible exact Below.refl _ _ | (with_reducible refine Below.al ?_) | (with_reducible refine Below.drew ?_) | (with_reducible refine Below.set ?_ (by first | (simp; done) | omega | (simp; omega))) | (with_reducible refine Below.thru ?_ (by assumption)) | (with_reducible refine Below.chg ?_ (by assumption) (by first | (simp; done) | omega | (simp; omega)))))⟩
    · obtain rfl : j = n := by omega
      have hf : idxF pr l = -1 := idx_none (fun i hi => hno.out i hi (by have := hl.out; omega))
      replace hf := Lib.hid hf
      go_wp2_with fail
      go_ret
      exact Ret.mk (by rw [hf.out]; rfl) (by repeat (first | with_reducible exact Below.refl _ _ | (with_reducible refine Below.al ?_) | (with_reducible refine Below.drew ?_) | (with_reducible refine Below.set ?_ (by first | (simp; done) | omega | (simp; omega))) | (with_reducible refine Below.thru ?_ (by assumption)) | (with_reducible refine Below.chg ?_ (by assumption) (by first | (simp; done) | omega | (simp; omega)))))

/-- Where Place lays an element. -/
def placed (pr : El → Bool) (x : El) (l : List El) : List El := l.take (l.findIdx pr) ++ x :: l.drop (l.findIdx pr)
theorem find_len {p : El → Bool} {l : List El} (h : l.any p = false) : l.findIdx p = l.length :=
  Nat.le_antisymm List.findIdx_le_length (Nat.not_lt.1 fun hl => by
    obtain ⟨x, hx, hp⟩ := List.findIdx_lt_length.1 hl
    rw [List.any_eq_false] at h
    exact h x hx hp)
set_option maxRecDepth 100000 in
set_option maxHeartbeats 400000 in
theorem place_any (d : Nat) (most : Int) (l : List El) (x : Int) (w : World) (S : Nat → Prop) (h : (dockA d most l).holds w S) (hsm : l.length ≤ 100000) (hlt : (l.length : Int) < most) (G : Nat) (caps : Array Value) (hG : ∀ args w, (callFunc G args).run Try.prog w = .ok (.enter G args) w) (pr : El → Bool)
    (hcall : ∀ (x : El) (w' : World), Below w.heap.size w w' → Calls Try.prog G (#[val x] ++ caps) w' (Ret w' (.bool (pr x)))) :
    Calls Try.prog 55 #[.pointer (some ⟨d, 0, none⟩), .int .i64 x, .func (.func G) #[] caps] w (Fin w S (.bool true) [dockA d most (placed pr x l)]) := by
  have nf := run_neq_func (P := Try.prog) 85 (by kernel_rfl) (.func G) #[] caps
  have P1 := full_any d most l w S h
  obtain ⟨v, H⟩ := dock_open h
  obtain ⟨a, cap, rfl, hn, hcm, ha0, hR⟩ := St.slice (by omega) 1 H rfl
  obtain ⟨z, c, f⟩ := H.box 0 rfl
  have q : decide (most ≤ (l.length : Int)) = false := decide_eq_false (by omega)
  rw [q] at P1
  clear h ha0
  replace H := Lib.hid H; replace hR := Lib.hid hR; replace hcall := Lib.hid hcall; replace P1 := Lib.hid P1
  go_enter Try.func55, Try.ntmps55
  go_wp2_with fail
  refine Calls.mono (P1.out) ?_
  rintro e w1 ⟨rfl, hb1⟩
  have z1 := Below.size hb1; try simp only [World.size_alloc, World.size_setCell, World.size_drew] at z1
  obtain ⟨c1_0, f1_0⟩ := Below.blk hb1 (b := d) (by first | (simp; done) | omega | (simp; omega))
  have z1_0 : d < w1.heap.size := (by first | (simp; done) | omega | (simp; omega))
  have H1 := H.out.thru hb1
  clear P1
  have hR1 := hR.out.below hb1
  have P2 := index_any l l.length rfl (by omega) a cap w1 hR1 G caps hG pr (fun x w' hb => hcall.out x w' (Below.thru hb1 hb))
  replace H1 := Lib.hid H1; replace P2 := Lib.hid P2
  have hins : ∀ (k q : Nat) (W : World), k ≤ l.length → St w S W [cellA q [.int .i64 x], cellA d [.slice a l.length cap, .int .i64 most], rowA 1 (.slice a l.length cap) l.length (encs l)] →
      Calls Try.prog 90 #[.slice a l.length cap, .int .i64 (k : Int), .slice (some ⟨q, 0, none⟩) 1 1] W fun e w' =>
        ∃ v', e = .returned v' ∧ St w S w' [rowA 1 v' (l.length + 1) (encs (l.take k ++ x :: l.drop k)), cellA q [.int .i64 x], cellA d [.slice a l.length cap, .int .i64 most]] := by
    intro k q W hk HW
    obtain ⟨S3, hS3, _, back⟩ := HW.at 2 rfl
    obtain ⟨T1, T2, t1, t2, t3⟩ := HW.apart 0 2 (by decide) rfl rfl
    have hne : ¬ S3 q := fun hx => t3 q ((t1.2 q).2 rfl) ((t2.2 q).2 ((hS3.2 q).1 hx))
    refine (InsInt.insert_any _ l.length k q (encs l) [.int .i64 x] S3 W hS3 hk hsm (encs_one l) (HW.box 0 rfl) rfl (by simp [Value.oneCell']) hne).mono ?_
    rintro e w' ⟨v', rfl, hst⟩
    refine ⟨v', rfl, ?_⟩
    have h5 := back _ _ hst
    rw [show (encs l).take (k * 1) = encs (l.take k) from encs_take l k, show (encs l).drop (k * 1) = encs (l.drop k) from encs_drop l k, show encs (l.take k) ++ [Value.int .i64 x] ++ encs (l.drop k) = encs (l.take k ++ x :: l.drop k) from by simp [encs, enc]] at h5
    exact h5
  go_wp2_with fail
  refine Calls.mono P2.out ?_
  rintro e w2 ⟨rfl, hb2⟩
  have H2 := H1.out.thru hb2
  obtain ⟨z2, k2, f2⟩ := H2.box 0 rfl
  have hle : l.findIdx pr ≤ l.length := List.findIdx_le_length
  have hpl : placed pr x l = l.take (l.findIdx pr) ++ x :: l.drop (l.findIdx pr) := rfl
  have HA := (H2.alloc [.int .i64 x] 3)
  clear P2 H1 hR1 c f
  replace hcall := trivial
  cases hb : l.any pr with
  | true =>
    have hi : idxF pr l = (l.findIdx pr : Int) := by simp [idxF, hb]
    rw [hi]
    have hge : decide ((0 : Int) ≤ (l.findIdx pr : Int)) = true := decide_eq_true (by omega)
    generalize l.findIdx pr = k at *
    clear hi hb
    replace H2 := Lib.hid H2; replace HA := Lib.hid HA; replace hins := Lib.hid hins; replace hpl := Lib.hid hpl
    go_wp2_with fail
    refine Calls.mono (hins.out _ _ _ hle HA.out) ?_
    rintro e w5 ⟨v5, rfl, H5⟩
    obtain ⟨a5, cap5, rfl, _⟩ := St.slice (by omega) 0 H5 rfl
    obtain ⟨z5, k5, f5⟩ := H5.box 2 rfl
    replace H5 := Lib.hid H5
    go_wp2_with fail
    go_ret
    have H6 := (H5.out.set 2 rfl 0 (.slice a5 (l.length + 1) cap5) (by simp)).drops 2
    refine ⟨rfl, dock_shut (v := .slice a5 (l.length + 1) cap5) (r := []) ?_⟩
    rw [hpl.out, show (l.take k ++ x :: l.drop k).length = l.length + 1 from by simp only [List.length_append, List.length_take, List.length_cons, List.length_drop]; omega]
    exact H6
  | false =>
    have hi : idxF pr l = -1 := by simp [idxF, hb]
    rw [hi]
    rw [find_len hb] at hpl
    clear hi hb
    replace H2 := Lib.hid H2; replace HA := Lib.hid HA; replace hins := Lib.hid hins; replace hpl := Lib.hid hpl
    go_wp2_with fail
    refine Calls.mono (hins.out _ _ _ (Nat.le_refl _) HA.out) ?_
    rintro e w5 ⟨v5, rfl, H5⟩
    obtain ⟨a5, cap5, rfl, _⟩ := St.slice (by omega) 0 H5 rfl
    obtain ⟨z5, k5, f5⟩ := H5.box 2 rfl
    replace H5 := Lib.hid H5
    go_wp2_with fail
    go_ret
    have H6 := (H5.out.set 2 rfl 0 (.slice a5 (l.length + 1) cap5) (by simp)).drops 2
    refine ⟨rfl, dock_shut (v := .slice a5 (l.length + 1) cap5) (r := []) ?_⟩
    rw [hpl.out, show (l.take l.length ++ x :: l.drop l.length).length = l.length + 1 from by simp only [List.length_append, List.length_take, List.length_cons, List.length_drop]; omega]
    exact H6
end Go.Proofs.Ytiaefmmcakagpaa.DockSInt
