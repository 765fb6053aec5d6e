/- The walks of the package sift: what it is made of, New, Len, Cursor, has. -/
import Derived.Test.YtiaefmmcakagpaaDockSweepWWait
import Derived.Test.YtiaefmmcakagpaaPlaceWWait
import Derived.Test.YtiaefmmcakagpaaDockNDg
namespace Go.Proofs.Ytiaefmmcakagpaa.Sift
set_option linter.unusedSimpArgs false
set_option linter.unusedVariables false
open Go Go.RowKit Go.Shelf Go.Proofs.Ytiaefmmcakagpaa
open Go.Proofs.Ytiaefmmcakagpaa.DockWait (El enc val encs dockA dock_open dock_parts dock_shut)
attribute [local irreducible] Calls
attribute [local go_sem] Oper.semAt_some

def siftA (s : Nat) (c : Int) (l : List El) : Asn := exA fun d => sepA [cellA s [.pointer (some ⟨d, 0, none⟩), .int .i64 c], dockA d 33 l]
theorem sift_open {s : Nat} {c : Int} {l : List El} {w : World} {S : Nat → Prop} (h : (siftA s c l).holds w S) : ∃ d, St w S w [cellA s [.pointer (some ⟨d, 0, none⟩), .int .i64 c], dockA d 33 l] := by
  obtain ⟨d, h⟩ := h
  exact ⟨d, St.start h⟩
theorem sift_shut {W w : World} {S : Nat → Prop} {s d : Nat} {c : Int} {l : List El} {r : List Asn} (h : St W S w (cellA s [.pointer (some ⟨d, 0, none⟩), .int .i64 c] :: dockA d 33 l :: r)) : St W S w (siftA s c l :: r) :=
  St.ex (fun d => sepA [cellA s [.pointer (some ⟨d, 0, none⟩), .int .i64 c], dockA d 33 l]) d (St.join [cellA s [.pointer (some ⟨d, 0, none⟩), .int .i64 c], dockA d 33 l] r h)
theorem sift_parts {W w : World} {S : Nat → Prop} {s : Nat} {c : Int} {l : List El} {r : List Asn} (h : St W S w (siftA s c l :: r)) : ∃ d, St W S w (cellA s [.pointer (some ⟨d, 0, none⟩), .int .i64 c] :: dockA d 33 l :: r) := by
  obtain ⟨d, h⟩ := St.unex 0 h rfl
  exact ⟨d, St.unsep 0 h rfl⟩

theorem new_any (w : World) : Calls Try.prog 21 #[] w fun e w' => ∃ s, e = .returned (.pointer (some ⟨s, 0, none⟩)) ∧ St w none0 w' [siftA s 0 []] := by
  have P := DockWait.new_any 33 w
  rw [show min (max (33 : Int) 0) 1000 = 33 by decide] at P
  replace P := Lib.hid P
  go_enter Try.func21, Try.ntmps21
  go_wp2_with fail
  refine Calls.mono P.out ?_
  rintro e w1 ⟨d, rfl, H⟩
  clear P
  go_wp2_with fail
  go_ret
  exact ⟨_, rfl, sift_shut (r := []) (H.alloc [.pointer (some ⟨d, 0, none⟩), .int .i64 0] _)⟩
theorem len_any (s : Nat) (c : Int) (l : List El) (w : World) (S : Nat → Prop) (h : (siftA s c l).holds w S) : Calls Try.prog 24 #[.pointer (some ⟨s, 0, none⟩)] w (Ret w (.int .i64 l.length)) := by
  obtain ⟨d, H⟩ := sift_open h
  obtain ⟨z, k, f⟩ := H.box 0 rfl
  obtain ⟨SD, hD⟩ := H.held 1 rfl
  have P := DockWait.len_any d 33 l w SD hD
  clear h H hD
  replace P := Lib.hid P
  go_enter Try.func24, Try.ntmps24
  go_wp2_with fail
  refine Calls.mono (P.out) ?_
  rintro e w1 ⟨rfl, hb1⟩
  have z1 := Below.size hb1; try simp only [World.size_alloc, World.size_setCell, World.size_drew] at z1
  clear P
  go_wp2_with fail
  go_ret
  exact Ret.mk rfl (by repeat (first | with_reducible exact Below.refl _ _ | (with_reducible refine Below.al ?_) | (with_reducible refine Below.drew ?_) | (with_reducible refine Below.set ?_ (by first | (simp; done) | omega | (simp; omega))) | (with_reducible refine Below.thru ?_ (by assumption)) | (with_reducible refine Below.chg ?_ (by assumption) (by first | (simp; done) | omega | (simp; omega)))))
theorem len_none (w : World) : Calls Try.prog 24 #[.pointer none] w (Ret w (.int .i64 0)) := by
  go_enter Try.func24, Try.ntmps24
  go_wp2_with fail
  go_ret
  exact Ret.mk rfl (by repeat (first | with_reducible exact Below.refl _ _ | (with_reducible refine Below.al ?_) | (with_reducible refine Below.drew ?_) | (with_reducible refine Below.set ?_ (by first | (simp; done) | omega | (simp; omega))) | (with_reducible refine Below.thru ?_ (by assumption)) | (with_reducible refine Below.chg ?_ (by assumption) (by first | (simp; done) | omega | (simp; omega)))))
theorem cursor_any (s : Nat) (c : Int) (l : List El) (w : World) (S : Nat → Prop) (h : (siftA s c l).holds w S) : Calls Try.prog 25 #[.pointer (some ⟨s, 0, none⟩)] w (Ret w (.int .i64 c)) := by
  obtain ⟨d, H⟩ := sift_open h
  obtain ⟨z, k, f⟩ := H.box 0 rfl
  clear h H
  go_enter Try.func25, Try.ntmps25
  go_wp2_with fail
  go_ret
  exact Ret.mk rfl (by repeat (first | with_reducible exact Below.refl _ _ | (with_reducible refine Below.al ?_) | (with_reducible refine Below.drew ?_) | (with_reducible refine Below.set ?_ (by first | (simp; done) | omega | (simp; omega))) | (with_reducible refine Below.thru ?_ (by assumption)) | (with_reducible refine Below.chg ?_ (by assumption) (by first | (simp; done) | omega | (simp; omega)))))
theorem cursor_none (w : World) : Calls Try.prog 25 #[.pointer none] w (Ret w (.int .i64 0)) := by
  go_enter Try.func25, Try.ntmps25
  go_wp2_with fail
  go_ret
  exact Ret.mk rfl (by repeat (first | with_reducible exact Below.refl _ _ | (with_reducible refine Below.al ?_) | (with_reducible refine Below.drew ?_) | (with_reducible refine Below.set ?_ (by first | (simp; done) | omega | (simp; omega))) | (with_reducible refine Below.thru ?_ (by assumption)) | (with_reducible refine Below.chg ?_ (by assumption) (by first | (simp; done) | omega | (simp; omega)))))

def hasI (b s d : Nat) (c num : Int) (pre : List El) : List Asn := [andA (pre.any (fun x => x.1 == num) = false) (sepA [cellA b [.int .i64 num], cellA (b + 1) [.bool false], cellA s [.pointer (some ⟨d, 0, none⟩), .int .i64 c]])]
def hasX (b s d : Nat) (c num : Int) (k : Code) (pre : List El) : List Asn := [andA (k = .ret ∧ pre.any (fun x => x.1 == num) = true) (sepA [cellA b [.int .i64 num], cellA (b + 1) [.bool true], cellA s [.pointer (some ⟨d, 0, none⟩), .int .i64 c]])]
set_option maxRecDepth 100000 in
set_option maxHeartbeats 1000000 in
theorem has_any (s : Nat) (c : Int) (l : List El) (num : Int) (hl : l.length ≤ 100000) (w : World) (S : Nat → Prop) (h : (siftA s c l).holds w S) :
    Calls Try.prog 93 #[.pointer (some ⟨s, 0, none⟩), .int .i64 num] w (Fin w S (.bool (l.any fun x => x.1 == num)) [siftA s c l]) := by
  obtain ⟨d, H⟩ := sift_open h
  have H0 := (H.alloc [.int .i64 num] 3).alloc [.bool false] 4
  simp only [World.size_alloc] at H0
  obtain ⟨z, k, f⟩ := H.box 0 rfl
  clear h H
  replace H0 := Lib.hid H0
  refine callsIn_wide.1 (callsIn_of_wp_marks (n := 10) Try.func93 rfl trivial ?_ rfl)
  simp only [Try.ntmps93, List.size_toArray, List.length_cons, List.length_nil, Nat.reduceAdd, Nat.reduceSub, Array.replicate_succ, Array.replicate_zero, List.push_toArray, List.append_toArray, List.nil_append, List.cons_append]
  gi_wp2
  refine ⟨trivial, (callsIn_wide.2 (DockWait.all_new d _)).mono ?_⟩
  rintro e w1 ⟨b1, rfl, HA⟩
  simp only []
  have H1 : St w S w1 [cellA b1 [.pointer (some ⟨d, 0, none⟩)], cellA (w.heap.size + 1) [.bool false], cellA w.heap.size [.int .i64 num], cellA s [.pointer (some ⟨d, 0, none⟩), .int .i64 c], dockA d 33 l] := (H0.out.add HA)
  have H3 : St w S w1 ([cellA b1 [.pointer (some ⟨d, 0, none⟩)], dockA d 33 l] ++ hasI w.heap.size s d c num []) := (St.and (by simp) (St.join [_, _, _] [_, _] (H1.arr [2, 1, 3, 0, 4] rfl))).arr [1, 2, 0] rfl
  clear H0 H1 HA
  gi_wp2
  refine wpIn_range_st2 rfl (by decide) (gf := 100) (lb := #[.pointer (some ⟨b1, 0, none⟩)]) rfl trivial (enters_of Try.func100 (by kernel_rfl) rfl)
    (DockWait.all_iter _ d b1 33 l hl w S) (fun _ => rfl) (hasI w.heap.size s d c num) (hasX w.heap.size s d c num) H3 ?round ?done ?stop
  case round =>
    intro L pre x suf w1 hx
    obtain ⟨x1, x2, x3⟩ := x
    unfold val
    gi_wp2
    refine ⟨cellA w1.heap.size [.int .i64 x1, .string x2, .int .i64 x3], fun l' h => h.alloc _ _, ?_⟩
    intro p w3 hs
    obtain ⟨hno, h1⟩ := (hs.perm (List.perm_append_comm (l₁ := _ :: p))).unand 0 rfl
    have h2 : St w S w3 (cellA w.heap.size [.int .i64 num] :: cellA (w.heap.size + 1) [.bool false] :: cellA s [.pointer (some ⟨d, 0, none⟩), .int .i64 c] :: cellA w1.heap.size [.int .i64 x1, .string x2, .int .i64 x3] :: p) := St.unsep 0 h1 rfl
    obtain ⟨z0, c0, f0⟩ := h2.box 0 rfl
    obtain ⟨z1, c1, f1⟩ := h2.box 1 rfl
    obtain ⟨z3, c3, f3⟩ := h2.box 3 rfl
    clear hs h1 H3
    cases hq : (x1 == num) with
    | true =>
      have hyes : (pre ++ [(x1, x2, x3)]).any (fun x => x.1 == num) = true := by simp [hq]
      have h4 := ((h2.set 1 rfl 0 (.bool true) (by simp))).drop 3 rfl
      have hq2 : decide (x1 = num) = true := by simpa using hq
      replace h2 := Lib.hid h2; replace hno := Lib.hid hno; replace hx := Lib.hid hx; replace h4 := Lib.hid h4; replace hyes := Lib.hid hyes
      gi_wp2
      exact (St.and ⟨rfl, hyes.out⟩ (St.join [_, _, _] _ (h4.out.arrN [1, 0, 2] rfl))).perm (List.perm_append_comm (l₁ := [_]))
    | false =>
      have hno2 : (pre ++ [(x1, x2, x3)]).any (fun x => x.1 == num) = false := by rw [List.any_append, hno]; simp [hq]
      have hq2 : decide (x1 = num) = false := by simpa using hq
      have h4 := h2.drop 3 rfl
      replace h2 := Lib.hid h2; replace hno2 := Lib.hid hno2; replace hx := Lib.hid hx; replace h4 := Lib.hid h4
      gi_wp2
      exact (St.and hno2.out (St.join [_, _, _] _ h4.out)).perm (List.perm_append_comm (l₁ := [_]))
  case done =>
    intro D w2 hs
    have h0 := St.arr (l := [objA D (.deferred (some [])), cellA b1 [.pointer (some ⟨d, 0, none⟩)], dockA d 33 l, andA (l.any (fun x => x.1 == num) = false) (sepA [cellA w.heap.size [.int .i64 num], cellA (w.heap.size + 1) [.bool false], cellA s [.pointer (some ⟨d, 0, none⟩), .int .i64 c]])]) hs [3, 0, 1, 2] rfl
    obtain ⟨hno, h1⟩ := h0.unand 0 rfl
    have h2 := St.unsep 0 h1 rfl
    obtain ⟨z7, c7, f7⟩ := h2.box 1 rfl
    have h3 := (h2.set 1 rfl 0 (.bool false) (by simp))
    have hD := h3.obj 3 rfl
    have HP := h3.putObj 3 rfl (.deferred none)
    obtain ⟨z9, c9, f9⟩ := HP.box 1 rfl
    have HF : St w S _ [siftA s c l] := (sift_shut (HP.arrN [3, 5, 1, 2, 4, 0] rfl)).drops 1
    clear hs h0 h1 h2 h3 H3
    replace hD := Lib.hid hD; replace HF := Lib.hid HF; replace hno := Lib.hid hno
    gi_wp2
    refine ⟨by simp, .inl ⟨_, _, rfl, run_takeDeferred hD.out, ?_⟩⟩
    exact ⟨.bool false, by simp [results, Try.results93, go_sem, c9], by rw [hno.out], HF.out⟩
  case stop =>
    intro D k pre x suf w2 hx hs
    have h0 := St.arr (l := [objA D (.deferred (some [])), cellA b1 [.pointer (some ⟨d, 0, none⟩)], dockA d 33 l, andA (k = .ret ∧ (pre ++ [x]).any (fun x => x.1 == num) = true) (sepA [cellA w.heap.size [.int .i64 num], cellA (w.heap.size + 1) [.bool true], cellA s [.pointer (some ⟨d, 0, none⟩), .int .i64 c]])]) hs [3, 0, 1, 2] rfl
    obtain ⟨⟨rfl, hyes⟩, h1⟩ := h0.unand 0 rfl
    have h2 := St.unsep 0 h1 rfl
    have hD := h2.obj 3 rfl
    have HP := h2.putObj 3 rfl (.deferred none)
    obtain ⟨z8, c8, f8⟩ := HP.box 2 rfl
    have HF : St w S _ [siftA s c l] := (sift_shut (HP.arrN [3, 5, 1, 2, 4, 0] rfl)).drops 1
    have hall : l.any (fun x => x.1 == num) = true := by rw [hx, show pre ++ x :: suf = (pre ++ [x]) ++ suf by simp, List.any_append, hyes]; rfl
    clear hs h0 h1 h2 H3
    replace hD := Lib.hid hD; replace HF := Lib.hid HF; replace hx := Lib.hid hx; replace hall := Lib.hid hall
    gi_wp2
    refine ⟨by simp, .inl ⟨_, _, rfl, run_takeDeferred hD.out, ?_⟩⟩
    exact ⟨.bool true, by simp [results, Try.results93, go_sem, c8], by rw [hall.out], HF.out⟩
end Go.Proofs.Ytiaefmmcakagpaa.Sift
