/- The walks of the dock's statements' own functions: Ints, all, works. -/
import Derived.Test.YtiaefmmcakagpaaDockTInt
import Derived.Deep.LoopGhost
namespace Go.Proofs.Ytiaefmmcakagpaa.DockLaw
set_option linter.unusedSimpArgs false
set_option linter.unusedVariables false
open Go Go.RowKit Go.Proofs.Ytiaefmmcakagpaa Go.Proofs.Ytiaefmmcakagpaa.DockSInt
attribute [local irreducible] Calls

theorem encs_i64s (l : List Int) : encs l = i64s l := i64s_flat l
theorem ints_at {w : World} {a : Option Addr} {l : List Int} (h : Rd w a (i64s l)) {n : Nat} (hn : l.length = n) (h0 : 0 < n) :
    ∃ b off, a = some ⟨b, off, none⟩ ∧ b < w.heap.size ∧ ∀ i (hi : i < l.length), w.cell? ⟨b, off + i, none⟩ = some (.int .i64 l[i]) := by
  obtain ⟨b, off, e, hb, hc⟩ := h.cons (i64s_ne hn h0)
  exact ⟨b, off, e, hb, fun i hi => hc i _ (i64s_at hi)⟩
set_option maxRecDepth 100000 in
theorem ints_any (l : List Int) (n : Nat) (hl : l.length = n) (hn : n ≤ maxLen) (a : Option Addr) (cap : Nat) (a' : Option Addr) (cap' : Nat) (w : World) (h : Rd w a (i64s l)) (g : Rd w a' (i64s l)) :
    Calls Try.prog 17 #[.slice a n cap, .slice a' n cap'] w (Ret w (.bool true)) := by
  unfold maxLen at hn
  replace h := Lib.hid h; replace g := Lib.hid g; replace hl := Lib.hid hl
  go_enter Try.func17, Try.ntmps17
  go_wp2_with fail
  go_loopg [5] n (fun g i wr => ∃ k : Nat, k ≤ n ∧ g = n - k ∧ i = .int .i64 k ∧ Below w.heap.size w wr)
  case atStart => exact ⟨0, by omega, by omega, rfl, (by repeat (first | with_reducible exact Below.refl _ _ | (with_reducible refine Below.al ?_) | (with_reducible refine Below.drew ?_) | (with_reducible refine Below.set ?_ (by first | (simp; done) | omega | (simp; omega))) | (with_reducible refine Below.thru ?_ (by assumption)) | (with_reducible refine Below.chg ?_ (by assumption) (by first | (simp; done) | omega | (simp; omega)))))⟩
  case round =>
    obtain ⟨k, hk, hg, rfl, hbw⟩ := hrel
    by_cases hlt : k < n
    · have hkl : k < l.length := by have := hl.out; omega
      obtain ⟨b, off, rfl, hb, hc⟩ := ints_at (h.out.below hbw) hl.out (by omega)
      obtain ⟨b', off', rfl, hb', hc'⟩ := ints_at (g.out.below hbw) hl.out (by omega)
      have e0 := hc k hkl
      have f0 := hc' k hkl
      clear hc hc'
      generalize l[k] = d at *
      go_wp2_with fail
      refine wp_region_near (by kernel_rfl) (by kernel_rfl) ?_
      intro hs
      repeat (go_big_quiet_step (fail))
      refine wpQuiet_nil ?_
      clear hs
      intro w2 hb2
      go_wp2_with fail
      go_roundg (n - (k + 1))
      case measure => omega
      case rel => exact ⟨k + 1, by omega, rfl, by go_num, (by repeat (first | with_reducible exact Below.refl _ _ | (with_reducible refine Below.al ?_) | (with_reducible refine Below.drew ?_) | (with_reducible refine Below.set ?_ (by first | (simp; done) | omega | (simp; omega))) | (with_reducible refine Below.thru ?_ (by assumption)) | (with_reducible refine Below.chg ?_ (by assumption) (by first | (simp; done) | omega | (simp; omega)))))⟩
    · go_wp2_with fail
      go_ret
      exact Ret.mk rfl (by repeat (first | with_reducible exact Below.refl _ _ | (with_reducible refine Below.al ?_) | (with_reducible refine Below.drew ?_) | (with_reducible refine Below.set ?_ (by first | (simp; done) | omega | (simp; omega))) | (with_reducible refine Below.thru ?_ (by assumption)) | (with_reducible refine Below.chg ?_ (by assumption) (by first | (simp; done) | omega | (simp; omega)))))

/-- What was told so far, in a variable of its own, and how far. -/
def gotA (gb fb : Nat) (far : Int) (xs : List El) : Asn := exA fun v => sepA [cellA gb [v], rowA 1 v xs.length (encs xs), cellA fb [.int .i64 far]]
theorem got_parts {W w : World} {S : Nat → Prop} {gb fb : Nat} {far : Int} {xs : List El} {r : List Asn} (h : St W S w (gotA gb fb far xs :: r)) : ∃ v, St W S w (cellA gb [v] :: rowA 1 v xs.length (encs xs) :: cellA fb [.int .i64 far] :: r) := by
  obtain ⟨v, h⟩ := St.unex 0 h rfl
  exact ⟨v, St.unsep 0 h rfl⟩
theorem got_shut {W w : World} {S : Nat → Prop} {gb fb : Nat} {far : Int} {xs : List El} {v : Value} {r : List Asn} (h : St W S w (cellA gb [v] :: rowA 1 v xs.length (encs xs) :: cellA fb [.int .i64 far] :: r)) : St W S w (gotA gb fb far xs :: r) :=
  St.ex (fun v => sepA [cellA gb [v], rowA 1 v xs.length (encs xs), cellA fb [.int .i64 far]]) v (St.join [cellA gb [v], rowA 1 v xs.length (encs xs), cellA fb [.int .i64 far]] r h)
set_option maxRecDepth 100000 in
theorem tell_any (gb fb : Nat) (far : Int) (xs : List El) (x : El) (w : World) (S : Nat → Prop) (h : (gotA gb fb far xs).holds w S) (hsm : xs.length ≤ 100000) :
    Calls Try.prog 62 #[.int .i64 x, .pointer (some ⟨gb, 0, none⟩), .pointer (some ⟨fb, 0, none⟩)] w (Fin w S (.bool (decide ((xs.length : Int) + 1 < far))) [gotA gb fb far (xs ++ [x])]) := by
  obtain ⟨i0, hi, hz, hz1, hz2⟩ := info_parts DelInt.el_info
  obtain ⟨v, H⟩ := got_parts (St.start (Sep.one h))
  obtain ⟨z, c, f⟩ := H.box 0 rfl
  obtain ⟨zf, cf, ff⟩ := H.box 2 rfl
  clear h
  replace H := Lib.hid H
  go_enter Try.func62, Try.ntmps62
  go_wp2_with (at_builtin; (refine wpList_appS rfl (.tmp 5) (.tmp 7) _ rfl 3 i0 _ 1 8 Try.underlying34 hi hz hz1 hz2 rfl (by omega) 1 v xs.length (encs xs) rfl H.out rfl 1 1 [.int .i64 x] rfl rfl (by simp [Value.oneCell']) (by omega) (by omega) ?_; intro wv5 w5 H5; obtain ⟨g5, o5, c5, rfl⟩ := row_some (H5.row 0 rfl) (by omega); obtain ⟨z5, k5, f5⟩ := H5.box 1 rfl; obtain ⟨z6, k6, f6⟩ := H5.box 2 rfl; have n1 : ¬ gb = fb := H5.ne_cells 1 2 rfl rfl (by decide); replace H5 := Lib.hid H5))
  go_ret
  have H6 := H5.out.set 1 rfl 0 (.slice (some ⟨g5, o5, none⟩) (xs.length + 1) c5) (by simp)
  refine ⟨by go_num, got_shut (v := .slice (some ⟨g5, o5, none⟩) (xs.length + 1) c5) (r := []) ?_⟩
  rw [List.length_append, ← encs_app]
  exact H6
theorem take_stop {far : Int} {j : Nat} (h : j = 0 ∨ (j : Int) < far) (hs : ¬ (j : Int) + 1 < far) : (max far 1).toNat = j + 1 := by omega
theorem encs_at {l : List El} {i : Nat} (h : i < l.length) : (encs l)[i]? = some (.int .i64 l[i]) := by rw [encs_i64s]; exact i64s_at h
set_option maxRecDepth 100000 in
set_option maxHeartbeats 400000 in
theorem each_any (d nb gb fb : Nat) (most far : Int) (l : List El) (hl2 : l.length ≤ 100000) (w : World) (S : Nat → Prop) (h : (sepA [cellA nb [.pointer (some ⟨d, 0, none⟩)], dockA d most l, gotA gb fb far []]).holds w S) :
    Calls Try.prog 91 #[.func (.func 62) #[] #[.pointer (some ⟨gb, 0, none⟩), .pointer (some ⟨fb, 0, none⟩)], .pointer (some ⟨nb, 0, none⟩)] w (fun e w' => (∃ v, e = .returned v) ∧ St w S w' [gotA gb fb far (l.take (max far 1).toNat), cellA nb [.pointer (some ⟨d, 0, none⟩)], dockA d most l]) := by
  have H0 := (St.unsep 0 (St.start (Sep.one h)) rfl).front 2 rfl
  clear h
  obtain ⟨v, H1⟩ := dock_parts (H0.front 2 rfl)
  obtain ⟨a, cap, hv, hn, hcm, ha0, hR⟩ := St.slice (by omega) 1 H1 rfl
  subst hv
  obtain ⟨zd, cd, fd⟩ := H1.box 0 rfl
  obtain ⟨zn, cn, fn⟩ := H1.box 3 rfl
  have hc0 : a = none → cap = 0 := fun e => by
    rcases (H1.row 1 rfl).2 with ⟨e', _⟩ | ⟨_, _, _, e', _⟩
    · injection e'
    · injection e' with e1; rw [e] at e1; cases e1
  have P0 := clone_any l a cap w hR ha0 hl2 hc0
  clear H1 hR hc0
  replace P0 := Lib.hid P0; replace H0 := Lib.hid H0
  go_enter Try.func91, Try.ntmps91
  go_wp2_with fail
  refine Calls.mono P0.out ?_
  rintro e w1 ⟨cv, rfl, HC⟩
  have H2 := H0.out.add HC
  clear HC P0 H0 cd fd cn fn
  obtain ⟨ca, cc, hv, _, _, _, _⟩ := St.slice (by omega) 0 H2 rfl
  subst hv
  replace H2 := Lib.hid H2
  go_wp2_with fail
  go_loopg [4, 13] l.length (fun g _ i wr => ∃ j : Nat, j ≤ l.length ∧ g = l.length - j ∧ i = .int .i64 j ∧ (j = 0 ∨ (j : Int) < far) ∧ St w S wr [gotA gb fb far (l.take j), rowA 1 (.slice ca l.length cc) l.length (encs l), dockA d most l, cellA nb [.pointer (some ⟨d, 0, none⟩)]])
  case atStart => exact ⟨0, by omega, by omega, rfl, .inl rfl, H2.out.arr [1, 0, 3, 2] rfl⟩
  case round =>
    obtain ⟨j, hj, hg, rfl, hfar, hst⟩ := hrel
    by_cases hlt : j < l.length
    · have P1 := Calls.st_at 0 hst rfl fun S h => tell_any gb fb far (l.take j) l[j] _ S h (by rw [List.length_take]; omega)
      have htk : l.take j ++ [l[j]] = l.take (j + 1) := (List.take_succ_eq_append_getElem hlt).symm
      have hlj : (l.take j).length = j := by rw [List.length_take]; omega
      rw [htk, hlj] at P1
      have hR := St.rd (by omega) 1 hst rfl
      rw [encs_i64s] at hR
      obtain ⟨b, off, rfl, hb, hc⟩ := ints_at hR rfl (by omega)
      have e0 := hc j hlt
      clear hc hR htk hlj H2 hst
      generalize l[j] = u at *
      replace P1 := Lib.hid P1
      go_wp2_with fail
      refine Calls.mono P1.out ?_
      rintro e w2 ⟨rfl, H3⟩
      clear P1
      by_cases hs : (j : Int) + 1 < far
      · rw [decide_eq_true hs]
        replace H3 := Lib.hid H3
        go_wp2_with fail
        go_roundg (l.length - (j + 1))
        case measure => omega
        case rel => exact ⟨j + 1, by omega, rfl, by go_num, .inr (by omega), H3.out⟩
      · rw [decide_eq_false hs]
        rw [← take_stop hfar hs] at H3
        replace H3 := Lib.hid H3
        go_wp2_with fail
        refine bodyPost_ret (results_none rfl _ _ _) rfl ?_
        exact ⟨⟨_, rfl⟩, ((H3.out.drop 1 rfl).front 2 rfl).front 1 rfl⟩
    · obtain rfl : j = l.length := by omega
      have ht : l.take l.length = l.take (max far 1).toNat := by
        rw [List.take_length, List.take_of_length_le]
        omega
      rw [ht] at hst
      clear H2
      replace hst := Lib.hid hst
      go_wp2_with fail
      go_end0
      exact ⟨⟨_, rfl⟩, ((hst.out.drop 1 rfl).front 2 rfl).front 1 rfl⟩
end Go.Proofs.Ytiaefmmcakagpaa.DockLaw
