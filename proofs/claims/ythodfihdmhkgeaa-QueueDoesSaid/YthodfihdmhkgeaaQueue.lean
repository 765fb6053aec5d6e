/- The walks of the package queue. -/
import Derived.Test.YthodfihdmhkgeaaDockDg
import Derived.Deep.LoopGhost
namespace Go.Proofs.Ythodfihdmhkgeaa.Queue
set_option linter.unusedSimpArgs false
set_option linter.unusedVariables false
open Go Go.RowKit Go.Proofs.Ythodfihdmhkgeaa Go.Proofs.Ythodfihdmhkgeaa.DockDg
attribute [local irreducible] Calls

def queueA (q : Nat) (last : Int) (l : List El) : Asn := exA fun d => sepA [cellA q [.pointer (some ⟨d, 0, none⟩), .int .i64 last], dockA d 32 l]
theorem queue_parts {W w : World} {S : Nat → Prop} {q : Nat} {last : Int} {l : List El} {r : List Asn} (h : St W S w (queueA q last l :: r)) : ∃ d, St W S w (cellA q [.pointer (some ⟨d, 0, none⟩), .int .i64 last] :: dockA d 32 l :: r) := by
  obtain ⟨v, h⟩ := St.unex 0 h rfl
  exact ⟨v, St.unsep 0 h rfl⟩
theorem queue_shut {W w : World} {S : Nat → Prop} {q d : Nat} {last : Int} {l : List El} {r : List Asn} (h : St W S w (cellA q [.pointer (some ⟨d, 0, none⟩), .int .i64 last] :: dockA d 32 l :: r)) : St W S w (queueA q last l :: r) :=
  St.ex (fun d => sepA [cellA q [.pointer (some ⟨d, 0, none⟩), .int .i64 last], dockA d 32 l]) d (St.join [cellA q [.pointer (some ⟨d, 0, none⟩), .int .i64 last], dockA d 32 l] r h)

theorem new_any (w : World) : Calls Try.prog 47 #[] w fun e w' => ∃ q, e = .returned (.pointer (some ⟨q, 0, none⟩)) ∧ St w none0 w' [queueA q 0 []] := by
  go_enter Try.func47, Try.ntmps47
  go_wp2_with fail
  refine Calls.mono (DockDg.new_any 32 _) ?_
  rintro e w1 ⟨d, rfl, h1⟩
  have H := h1.alloc [.pointer (some ⟨d, 0, none⟩), .int .i64 0] 108
  replace H := Lib.hid H
  go_wp2_with fail
  go_ret
  exact ⟨_, rfl, queue_shut (r := []) H.out⟩

section
variable {q : Nat} {last : Int} {l : List El} {w : World} {S : Nat → Prop}
theorem len_any (h : (queueA q last l).holds w S) : Calls Try.prog 51 #[.pointer (some ⟨q, 0, none⟩)] w (Ret w (.int .i64 l.length)) := by
  have H0 : St w S w [queueA q last l] := St.start (Sep.one h)
  obtain ⟨d, H⟩ := queue_parts H0
  obtain ⟨z, c, f⟩ := H.box 0 rfl
  obtain ⟨SD, hD⟩ := H.held 1 rfl
  replace H := Lib.hid H; replace H0 := Lib.hid H0
  go_enter Try.func51, Try.ntmps51
  go_wp2_with fail
  refine Calls.mono (DockDg.len_any d 32 l _ SD hD) ?_
  rintro e w1 ⟨rfl, hb1⟩
  have z1 := Below.size hb1; try simp only [World.size_alloc, World.size_setCell, World.size_drew] at z1
  go_wp2_with fail
  go_ret
  exact Ret.mk rfl (by repeat (first | with_reducible exact Below.refl _ _ | (with_reducible refine Below.al ?_) | (with_reducible refine Below.drew ?_) | (with_reducible refine Below.set ?_ (by first | (simp; done) | omega | (simp; omega))) | (with_reducible refine Below.thru ?_ (by assumption)) | (with_reducible refine Below.chg ?_ (by assumption) (by first | (simp; done) | omega | (simp; omega)))))
theorem last_any (h : (queueA q last l).holds w S) : Calls Try.prog 64 #[.pointer (some ⟨q, 0, none⟩)] w (Ret w (.int .i64 last)) := by
  have H0 : St w S w [queueA q last l] := St.start (Sep.one h)
  obtain ⟨d, H⟩ := queue_parts H0
  obtain ⟨z, c, f⟩ := H.box 0 rfl
  obtain ⟨SD, hD⟩ := H.held 1 rfl
  replace H := Lib.hid H; replace H0 := Lib.hid H0
  go_enter Try.func64, Try.ntmps64
  go_wp2_with fail
  go_ret
  exact Ret.mk rfl (by repeat (first | with_reducible exact Below.refl _ _ | (with_reducible refine Below.al ?_) | (with_reducible refine Below.drew ?_) | (with_reducible refine Below.set ?_ (by first | (simp; done) | omega | (simp; omega))) | (with_reducible refine Below.thru ?_ (by assumption)) | (with_reducible refine Below.chg ?_ (by assumption) (by first | (simp; done) | omega | (simp; omega)))))
theorem first_nil (h : (queueA q last []).holds w S) : Calls Try.prog 49 #[.pointer (some ⟨q, 0, none⟩)] w (Ret w (.tuple #[.agg #[.int .i64 0, .string ByteArray.empty], .bool false])) := by
  obtain ⟨l, hl⟩ : ∃ l : List El, l = [] := ⟨_, rfl⟩
  rw [← hl] at h
  have H0 : St w S w [queueA q last l] := St.start (Sep.one h)
  obtain ⟨d, H⟩ := queue_parts H0
  obtain ⟨z, c, f⟩ := H.box 0 rfl
  obtain ⟨SD, hD⟩ := H.held 1 rfl
  replace H := Lib.hid H; replace H0 := Lib.hid H0
  subst hl
  go_enter Try.func49, Try.ntmps49
  go_wp2_with fail
  obtain ⟨SX, hSX⟩ := (H.out.skip (.cells #[.int .i64 0, .string ByteArray.empty] 32)).held 1 rfl
  refine Calls.mono (DockDg.first_nil d 32 _ SX hSX) ?_
  rintro e w1 ⟨rfl, hb1⟩
  have hr : Box w1 w.heap.size [.int .i64 0, .string ByteArray.empty] := (Box.new [.int .i64 0, .string ByteArray.empty] 32).below hb1
  obtain ⟨zr, cr, fr⟩ := hr
  go_wp2_with fail
  exact bodyPost_ret (v := .tuple #[.agg #[.int .i64 0, .string ByteArray.empty], .bool false]) (by simp [results, Try.results49, go_sem, cr, zr]) rfl (Ret.mk rfl (by repeat (first | with_reducible exact Below.refl _ _ | (with_reducible refine Below.al ?_) | (with_reducible refine Below.drew ?_) | (with_reducible refine Below.set ?_ (by first | (simp; done) | omega | (simp; omega))) | (with_reducible refine Below.thru ?_ (by assumption)) | (with_reducible refine Below.chg ?_ (by assumption) (by first | (simp; done) | omega | (simp; omega))))))
theorem first_cons (x : El) (h : (queueA q last (x :: l)).holds w S) : Calls Try.prog 49 #[.pointer (some ⟨q, 0, none⟩)] w (Ret w (.tuple #[.agg #[.int .i64 x.1, .string x.2], .bool true])) := by
  obtain ⟨l', hl⟩ : ∃ l' : List El, l' = x :: l := ⟨_, rfl⟩
  rw [← hl] at h
  have H0 : St w S w [queueA q last l'] := St.start (Sep.one h)
  obtain ⟨d, H⟩ := queue_parts H0
  obtain ⟨z, c, f⟩ := H.box 0 rfl
  subst hl
  replace H := Lib.hid H; replace H0 := Lib.hid H0
  go_enter Try.func49, Try.ntmps49
  go_wp2_with fail
  obtain ⟨SX, hSX⟩ := (H.out.skip (.cells #[.int .i64 0, .string ByteArray.empty] 32)).held 1 rfl
  refine Calls.mono (DockDg.first_cons d 32 x l _ SX hSX) ?_
  rintro e w1 ⟨rfl, hb1⟩
  have hr : Box w1 w.heap.size [.int .i64 0, .string ByteArray.empty] := (Box.new [.int .i64 0, .string ByteArray.empty] 32).below hb1
  obtain ⟨zr, cr, fr⟩ := hr
  go_wp2_with fail
  exact bodyPost_ret (v := .tuple #[.agg #[.int .i64 x.1, .string x.2], .bool true]) (by simp [results, Try.results49, go_sem, cr, zr]) rfl (Ret.mk rfl (by repeat (first | with_reducible exact Below.refl _ _ | (with_reducible refine Below.al ?_) | (with_reducible refine Below.drew ?_) | (with_reducible refine Below.set ?_ (by first | (simp; done) | omega | (simp; omega))) | (with_reducible refine Below.thru ?_ (by assumption)) | (with_reducible refine Below.chg ?_ (by assumption) (by first | (simp; done) | omega | (simp; omega))))))

theorem sent_nil (h : (queueA q last []).holds w S) : Calls Try.prog 50 #[.pointer (some ⟨q, 0, none⟩)] w (Fin w S (.bool false) [queueA q last []]) := by
  obtain ⟨l, hl⟩ : ∃ l : List El, l = [] := ⟨_, rfl⟩
  rw [← hl] at h
  have H0 : St w S w [queueA q last l] := St.start (Sep.one h)
  obtain ⟨d, H⟩ := queue_parts H0
  obtain ⟨z, c, f⟩ := H.box 0 rfl
  obtain ⟨SD, hD⟩ := H.held 1 rfl
  replace H := Lib.hid H; replace H0 := Lib.hid H0
  subst hl
  go_enter Try.func50, Try.ntmps50
  go_wp2_with fail
  refine Calls.mono (DockDg.pull_nil d 32 _ SD hD) ?_
  rintro e w1 ⟨rfl, hb1⟩
  go_wp2_with fail
  go_ret
  exact ⟨rfl, (H0.out.thru hb1).thru (by repeat (first | with_reducible exact Below.refl _ _ | (with_reducible refine Below.al ?_) | (with_reducible refine Below.drew ?_) | (with_reducible refine Below.set ?_ (by first | (simp; done) | omega | (simp; omega))) | (with_reducible refine Below.thru ?_ (by assumption)) | (with_reducible refine Below.chg ?_ (by assumption) (by first | (simp; done) | omega | (simp; omega)))))⟩
theorem sent_cons (x : El) (h : (queueA q last (x :: l)).holds w S) : Calls Try.prog 50 #[.pointer (some ⟨q, 0, none⟩)] w (Fin w S (.bool true) [queueA q last l]) := by
  have H0 : St w S w [queueA q last (x :: l)] := St.start (Sep.one h)
  obtain ⟨d, H⟩ := queue_parts H0
  obtain ⟨z, c, f⟩ := H.box 0 rfl
  have hp : Calls Try.prog 83 #[.pointer (some ⟨d, 0, none⟩)] w (Fin w S (.tuple #[.agg #[.int .i64 x.1, .string x.2], .bool true]) [dockA d 32 l, cellA q [.pointer (some ⟨d, 0, none⟩), .int .i64 last]]) :=
    Calls.st_at 1 H rfl (fun S hS => DockDg.pull_cons d 32 x l w S hS)
  clear H0 H
  go_enter Try.func50, Try.ntmps50
  go_wp2_with fail
  refine Calls.mono hp ?_
  rintro e w1 ⟨rfl, h1⟩
  have H1 := queue_shut (r := []) (h1.front 1 rfl)
  clear h1 hp
  replace H1 := Lib.hid H1
  go_wp2_with fail
  go_ret
  exact ⟨rfl, H1.out.thru (by repeat (first | with_reducible exact Below.refl _ _ | (with_reducible refine Below.al ?_) | (with_reducible refine Below.drew ?_) | (with_reducible refine Below.set ?_ (by first | (simp; done) | omega | (simp; omega))) | (with_reducible refine Below.thru ?_ (by assumption)) | (with_reducible refine Below.chg ?_ (by assumption) (by first | (simp; done) | omega | (simp; omega)))))⟩

theorem put_long (s : ByteArray) (hs : 200 < s.size) (hs' : s.size ≤ maxLen) (h : (queueA q last l).holds w S) :
    Calls Try.prog 48 #[.pointer (some ⟨q, 0, none⟩), .string s] w (Fin w S (.tuple #[.int .i64 0, .int .i64 11]) [queueA q last l]) := by
  have H0 : St w S w [queueA q last l] := St.start (Sep.one h)
  have k : decide ((200 : Int) < s.size) = true := decide_eq_true (by omega)
  unfold maxLen at hs'
  replace H0 := Lib.hid H0
  go_enter Try.func48, Try.ntmps48
  go_wp2_with fail
  go_ret2
  exact ⟨rfl, H0.out.thru (by repeat (first | with_reducible exact Below.refl _ _ | (with_reducible refine Below.al ?_) | (with_reducible refine Below.drew ?_) | (with_reducible refine Below.set ?_ (by first | (simp; done) | omega | (simp; omega))) | (with_reducible refine Below.thru ?_ (by assumption)) | (with_reducible refine Below.chg ?_ (by assumption) (by first | (simp; done) | omega | (simp; omega)))))⟩
theorem put_full (s : ByteArray) (hs : s.size ≤ 200) (hl : 32 ≤ l.length) (h : (queueA q last l).holds w S) :
    Calls Try.prog 48 #[.pointer (some ⟨q, 0, none⟩), .string s] w (Fin w S (.tuple #[.int .i64 0, .int .i64 6]) [queueA q last l]) := by
  have H0 : St w S w [queueA q last l] := St.start (Sep.one h)
  obtain ⟨d, H⟩ := queue_parts H0
  obtain ⟨z, c, f⟩ := H.box 0 rfl
  obtain ⟨SD, hD⟩ := H.held 1 rfl
  replace H := Lib.hid H; replace H0 := Lib.hid H0
  have k : decide ((200 : Int) < s.size) = false := decide_eq_false (by omega)
  have k2 : decide ((32 : Int) ≤ l.length) = true := decide_eq_true (by omega)
  go_enter Try.func48, Try.ntmps48
  go_wp2_with fail
  refine Calls.mono (DockDg.len_any d 32 l _ SD hD) ?_
  rintro e w1 ⟨rfl, hb1⟩
  have z1 := Below.size hb1; try simp only [World.size_alloc, World.size_setCell, World.size_drew] at z1
  go_wp2_with fail
  go_ret2
  exact ⟨rfl, (H0.out.thru hb1).thru (by repeat (first | with_reducible exact Below.refl _ _ | (with_reducible refine Below.al ?_) | (with_reducible refine Below.drew ?_) | (with_reducible refine Below.set ?_ (by first | (simp; done) | omega | (simp; omega))) | (with_reducible refine Below.thru ?_ (by assumption)) | (with_reducible refine Below.chg ?_ (by assumption) (by first | (simp; done) | omega | (simp; omega)))))⟩
set_option maxRecDepth 100000 in
theorem put_ok (s : ByteArray) (hs : s.size ≤ 200) (hl : l.length < 32) (h0 : 0 ≤ last) (h1 : last ≤ 1000000) (h : (queueA q last l).holds w S) :
    Calls Try.prog 48 #[.pointer (some ⟨q, 0, none⟩), .string s] w (Fin w S (.tuple #[.int .i64 (last + 1), .int .i64 0]) [queueA q (last + 1) (l ++ [(last + 1, s)])]) := by
  have H0 : St w S w [queueA q last l] := St.start (Sep.one h)
  obtain ⟨d, H⟩ := queue_parts H0
  obtain ⟨z, c, f⟩ := H.box 0 rfl
  obtain ⟨SD, hD⟩ := H.held 1 rfl
  replace H := Lib.hid H; replace H0 := Lib.hid H0
  have k : decide ((200 : Int) < s.size) = false := decide_eq_false (by omega)
  have k2 : decide ((32 : Int) ≤ l.length) = false := decide_eq_false (by omega)
  have k3 : decide ((140737488355327 : Int) ≤ last) = false := decide_eq_false (by omega)
  go_enter Try.func48, Try.ntmps48
  go_wp2_with fail
  refine Calls.mono (DockDg.len_any d 32 l _ SD hD) ?_
  rintro e w1 ⟨rfl, hb1⟩
  have z1 := Below.size hb1; try simp only [World.size_alloc, World.size_setCell, World.size_drew] at z1
  obtain ⟨c1_0, f1_0⟩ := Below.blk hb1 (b := q) (by first | (simp; done) | omega | (simp; omega))
  have z1_0 : q < w1.heap.size := (by first | (simp; done) | omega | (simp; omega))
  have H1 := (H.out.thru hb1).set 0 rfl 1 (.int .i64 (last + 1)) (by simp)
  have H1' : St w S (w1.setCell ⟨q, 1, none⟩ (.int .i64 (last + 1))) [cellA q [.pointer (some ⟨d, 0, none⟩), .int .i64 (last + 1)], dockA d 32 l] := H1
  clear H1
  replace H1' := Lib.hid H1'
  go_wp2_with fail
  refine wp_region_near_tail 10 (by kernel_rfl) (by kernel_rfl) ?_
  intro hs
  simp only [List.take_succ_cons, List.take_zero, List.drop_succ_cons, List.drop_zero]
  repeat (go_big_quiet_step (fail))
  refine wpQuiet_nil ?_
  clear hs
  intro w2 hb2
  have H2 := H1'.out.thru hb2
  have hp : Calls Try.prog 81 #[.pointer (some ⟨d, 0, none⟩), .agg #[.int .i64 (last + 1), .string s]] w2 (Fin w S (.bool (decide ((l.length : Int) < 32))) _) :=
    Calls.st_at 1 H2 rfl (fun S hS => DockDg.push_any d 32 l (last + 1, s) w2 S hS (by omega))
  rw [if_pos (by omega), decide_eq_true (by omega)] at hp
  clear H2
  go_wp2_with fail
  refine Calls.mono hp ?_
  rintro e w3 ⟨rfl, h3⟩
  have H3 := h3.front 1 rfl
  obtain ⟨z3, c3, f3⟩ := H3.box 0 rfl
  have H4 := queue_shut (r := []) H3
  clear hp h3 H3
  replace H4 := Lib.hid H4
  go_wp2_with fail
  go_ret2
  exact ⟨rfl, H4.out.thru (by repeat (first | with_reducible exact Below.refl _ _ | (with_reducible refine Below.al ?_) | (with_reducible refine Below.drew ?_) | (with_reducible refine Below.set ?_ (by first | (simp; done) | omega | (simp; omega))) | (with_reducible refine Below.thru ?_ (by assumption)) | (with_reducible refine Below.chg ?_ (by assumption) (by first | (simp; done) | omega | (simp; omega)))))⟩

theorem clear_any : ∀ (n : Nat) (l : List El), l.length = n → ∀ (w : World) (S : Nat → Prop), (queueA q last l).holds w S → n ≤ 100000 →
    Calls Try.prog 63 #[.pointer (some ⟨q, 0, none⟩)] w (Fin w S (.int .i64 l.length) [queueA q last []]) := by
  intro n l hln w S h hn
  have H0 : St w S w [queueA q last l] := St.start (Sep.one h)
  clear h
  replace H0 := Lib.hid H0; replace hln := Lib.hid hln
  go_enter Try.func63, Try.ntmps63
  go_wp2_with fail
  go_loopg [3] n (fun g i wr => ∃ (j : Nat) (l' : List El), j ≤ n ∧ g = n - j ∧ i = .int .i64 j ∧ Hid (l'.length = n - j) ∧ St w S wr [queueA q last l'])
  case atStart => exact ⟨0, l, by omega, by omega, rfl, hln.out, H0.out⟩
  case round =>
    obtain ⟨j, l', hj, hg, rfl, hl', hst⟩ := hrel
    cases l' with
    | nil =>
      have hjn : j = n := by have := hl'.out; simp at this; omega
      have hp : Calls Try.prog 50 #[.pointer (some ⟨q, 0, none⟩)] wr (Fin w S (.bool false) [queueA q last []]) := Calls.st_at 0 hst rfl (fun S hS => sent_nil hS)
      have hrl : (j : Int) = (l.length : Int) := by have := hln.out; omega
      clear hst
      replace hrl := Lib.hid hrl
      clear hjn
      go_wp2_with fail
      refine Calls.mono hp ?_
      rintro e w2 ⟨rfl, h2⟩
      replace h2 := Lib.hid h2
      clear hp
      go_wp2_with fail
      go_ret
      rw [hrl.out]
      exact ⟨rfl, h2.out.thru (by repeat (first | with_reducible exact Below.refl _ _ | (with_reducible refine Below.al ?_) | (with_reducible refine Below.drew ?_) | (with_reducible refine Below.set ?_ (by first | (simp; done) | omega | (simp; omega))) | (with_reducible refine Below.thru ?_ (by assumption)) | (with_reducible refine Below.chg ?_ (by assumption) (by first | (simp; done) | omega | (simp; omega)))))⟩
    | cons x l' =>
      have hjn : j < n := by have := hl'.out; simp at this; omega
      have hl2 : l'.length = n - (j + 1) := by have := hl'.out; simp at this; omega
      have hp : Calls Try.prog 50 #[.pointer (some ⟨q, 0, none⟩)] wr (Fin w S (.bool true) [queueA q last l']) := Calls.st_at 0 hst rfl (fun S hS => sent_cons x hS)
      clear hst
      replace hl2 := Lib.hid hl2
      go_wp2_with fail
      refine Calls.mono hp ?_
      rintro e w2 ⟨rfl, h2⟩
      replace h2 := Lib.hid h2
      clear hp
      go_wp2_with fail
      go_roundg (n - (j + 1))
      case measure => omega
      case rel => exact ⟨j + 1, l', by omega, rfl, by go_num, hl2.out, h2.out.thru (by repeat (first | with_reducible exact Below.refl _ _ | (with_reducible refine Below.al ?_) | (with_reducible refine Below.drew ?_) | (with_reducible refine Below.set ?_ (by first | (simp; done) | omega | (simp; omega))) | (with_reducible refine Below.thru ?_ (by assumption)) | (with_reducible refine Below.chg ?_ (by assumption) (by first | (simp; done) | omega | (simp; omega)))))⟩
end

theorem put_none (s : ByteArray) (w : World) : Calls Try.prog 48 #[.pointer none, .string s] w (Ret w (.tuple #[.int .i64 0, .int .i64 10])) := by
  go_enter Try.func48, Try.ntmps48
  go_wp2_with fail
  go_ret2
  exact Ret.mk rfl (by repeat (first | with_reducible exact Below.refl _ _ | (with_reducible refine Below.al ?_) | (with_reducible refine Below.drew ?_) | (with_reducible refine Below.set ?_ (by first | (simp; done) | omega | (simp; omega))) | (with_reducible refine Below.thru ?_ (by assumption)) | (with_reducible refine Below.chg ?_ (by assumption) (by first | (simp; done) | omega | (simp; omega)))))
theorem sent_none (w : World) : Calls Try.prog 50 #[.pointer none] w (Ret w (.bool false)) := by
  go_enter Try.func50, Try.ntmps50
  go_wp2_with fail
  go_ret
  exact Ret.mk rfl (by repeat (first | with_reducible exact Below.refl _ _ | (with_reducible refine Below.al ?_) | (with_reducible refine Below.drew ?_) | (with_reducible refine Below.set ?_ (by first | (simp; done) | omega | (simp; omega))) | (with_reducible refine Below.thru ?_ (by assumption)) | (with_reducible refine Below.chg ?_ (by assumption) (by first | (simp; done) | omega | (simp; omega)))))
theorem len_none (w : World) : Calls Try.prog 51 #[.pointer none] w (Ret w (.int .i64 0)) := by
  go_enter Try.func51, Try.ntmps51
  go_wp2_with fail
  go_ret
  exact Ret.mk rfl (by repeat (first | with_reducible exact Below.refl _ _ | (with_reducible refine Below.al ?_) | (with_reducible refine Below.drew ?_) | (with_reducible refine Below.set ?_ (by first | (simp; done) | omega | (simp; omega))) | (with_reducible refine Below.thru ?_ (by assumption)) | (with_reducible refine Below.chg ?_ (by assumption) (by first | (simp; done) | omega | (simp; omega)))))
theorem last_none (w : World) : Calls Try.prog 64 #[.pointer none] w (Ret w (.int .i64 0)) := by
  go_enter Try.func64, Try.ntmps64
  go_wp2_with fail
  go_ret
  exact Ret.mk rfl (by repeat (first | with_reducible exact Below.refl _ _ | (with_reducible refine Below.al ?_) | (with_reducible refine Below.drew ?_) | (with_reducible refine Below.set ?_ (by first | (simp; done) | omega | (simp; omega))) | (with_reducible refine Below.thru ?_ (by assumption)) | (with_reducible refine Below.chg ?_ (by assumption) (by first | (simp; done) | omega | (simp; omega)))))
theorem first_none (w : World) : Calls Try.prog 49 #[.pointer none] w (Ret w (.tuple #[.agg #[.int .i64 0, .string ByteArray.empty], .bool false])) := by
  go_enter Try.func49, Try.ntmps49
  go_wp2_with fail
  exact bodyPost_ret (v := .tuple #[.agg #[.int .i64 0, .string ByteArray.empty], .bool false]) (by simp [results, Try.results49, go_sem]; try rfl) rfl (Ret.mk rfl (by repeat (first | with_reducible exact Below.refl _ _ | (with_reducible refine Below.al ?_) | (with_reducible refine Below.drew ?_) | (with_reducible refine Below.set ?_ (by first | (simp; done) | omega | (simp; omega))) | (with_reducible refine Below.thru ?_ (by assumption)) | (with_reducible refine Below.chg ?_ (by assumption) (by first | (simp; done) | omega | (simp; omega))))))
theorem clear_none (w : World) : Calls Try.prog 63 #[.pointer none] w (Ret w (.int .i64 0)) := by
  go_enter Try.func63, Try.ntmps63
  go_wp2_with fail
  go_loopg [3] 0 (fun g i wr => i = .int .i64 ((0 : Nat) : Int) ∧ Below w.heap.size w wr)
  case atStart => exact ⟨rfl, (by repeat (first | with_reducible exact Below.refl _ _ | (with_reducible refine Below.al ?_) | (with_reducible refine Below.drew ?_) | (with_reducible refine Below.set ?_ (by first | (simp; done) | omega | (simp; omega))) | (with_reducible refine Below.thru ?_ (by assumption)) | (with_reducible refine Below.chg ?_ (by assumption) (by first | (simp; done) | omega | (simp; omega)))))⟩
  case round =>
    obtain ⟨rfl, hbw⟩ := hrel
    go_wp2_with fail
    refine Calls.mono (sent_none _) ?_
    rintro e w1 ⟨rfl, hb1⟩
    have z1 := Below.size hb1; try simp only [World.size_alloc, World.size_setCell, World.size_drew] at z1
    go_wp2_with fail
    go_ret
    exact Ret.mk rfl (by repeat (first | with_reducible exact Below.refl _ _ | (with_reducible refine Below.al ?_) | (with_reducible refine Below.drew ?_) | (with_reducible refine Below.set ?_ (by first | (simp; done) | omega | (simp; omega))) | (with_reducible refine Below.thru ?_ (by assumption)) | (with_reducible refine Below.chg ?_ (by assumption) (by first | (simp; done) | omega | (simp; omega)))))
end Go.Proofs.Ythodfihdmhkgeaa.Queue
