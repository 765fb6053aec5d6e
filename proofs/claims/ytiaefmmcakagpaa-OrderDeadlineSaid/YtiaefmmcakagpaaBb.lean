/- Texts that belong together, one behind another. -/
import Derived.Test.YtiaefmmcakagpaaBa
import Derived.WalkMore
import Derived.WalkSpells
import Derived.Deep.CutBlock
import Derived.Deep.DeepCutAuto
/- The walks of the package sift: what it is made of, New, Len, Cursor, has. -/
namespace Go.Proofs.Ytiaefmmcakagpaa.Sift
set_option linter.unusedSimpArgs false
set_option linter.unusedVariables false
open Go Go.RowKit Go.Shelf Go.Proofs.Ytiaefmmcakagpaa
open Go.Proofs.Ytiaefmmcakagpaa.DockWait (El enc val encs dockA dock_open dock_parts dock_shut)
attribute [local irreducible] Calls
attribute [local go_sem] Oper.semAt_some

def siftA (s : Nat) (c : Int) (l : List El) : Asn := exA fun d => sepA [cellA s [.pointer (some ⟨d, 0, none⟩), .int .i64 c], dockA d 33 l]
theorem sift_open {s : Nat} {c : Int} {l : List El} {w : World} {S : Nat → Prop} (h : (siftA s c l).holds w S) : ∃ d, St w S w [cellA s [.pointer (some ⟨d, 0, none⟩), .int .i64 c], dockA d 33 l] := by
  obtain ⟨d, h⟩ := h
  exact ⟨d, St.start h⟩
theorem sift_shut {W w : World} {S : Nat → Prop} {s d : Nat} {c : Int} {l : List El} {r : List Asn} (h : St W S w (cellA s [.pointer (some ⟨d, 0, none⟩), .int .i64 c] :: dockA d 33 l :: r)) : St W S w (siftA s c l :: r) :=
  St.ex (fun d => sepA [cellA s [.pointer (some ⟨d, 0, none⟩), .int .i64 c], dockA d 33 l]) d (St.join [cellA s [.pointer (some ⟨d, 0, none⟩), .int .i64 c], dockA d 33 l] r h)
theorem sift_parts {W w : World} {S : Nat → Prop} {s : Nat} {c : Int} {l : List El} {r : List Asn} (h : St W S w (siftA s c l :: r)) : ∃ d, St W S w (cellA s [.pointer (some ⟨d, 0, none⟩), .int .i64 c] :: dockA d 33 l :: r) := by
  obtain ⟨d, h⟩ := St.unex 0 h rfl
  exact ⟨d, St.unsep 0 h rfl⟩

theorem new_any (w : World) : Calls Try.prog 21 #[] w fun e w' => ∃ s, e = .returned (.pointer (some ⟨s, 0, none⟩)) ∧ St w none0 w' [siftA s 0 []] := by
  have P := DockWait.new_any 33 w
  rw [show min (max (33 : Int) 0) 1000 = 33 by decide] at P
  replace P := Lib.hid P
  go_enter Try.func21, Try.ntmps21
  go_wp2_with fail
  refine Calls.mono P.out ?_
  rintro e w1 ⟨d, rfl, H⟩
  clear P
  go_wp2_with fail
  go_ret
  exact ⟨_, rfl, sift_shut (r := []) (H.alloc [.pointer (some ⟨d, 0, none⟩), .int .i64 0] _)⟩
theorem len_any (s : Nat) (c : Int) (l : List El) (w : World) (S : Nat → Prop) (h : (siftA s c l).holds w S) : Calls Try.prog 24 #[.pointer (some ⟨s, 0, none⟩)] w (Ret w (.int .i64 l.length)) := by
  obtain ⟨d, H⟩ := sift_open h
  obtain ⟨z, k, f⟩ := H.box 0 rfl
  obtain ⟨SD, hD⟩ := H.held 1 rfl
  have P := DockWait.len_any d 33 l w SD hD
  clear h H hD
  replace P := Lib.hid P
  go_enter Try.func24, Try.ntmps24
  go_wp2_with fail
  refine Calls.mono (P.out) ?_
  rintro e w1 ⟨rfl, hb1⟩
  have z1 := Below.size hb1; try simp only [World.size_alloc, World.size_setCell, World.size_drew] at z1
  clear P
  go_wp2_with fail
  go_ret
  exact Ret.mk rfl (by repeat (first | with_reducible exact Below.refl _ _ | (with_reducible refine Below.al ?_) | (with_reducible refine Below.drew ?_) | (with_reducible refine Below.set ?_ (by first | (simp; done) | omega | (simp; omega))) | (with_reducible refine Below.thru ?_ (by assumption)) | (with_reducible refine Below.chg ?_ (by assumption) (by first | (simp; done) | omega | (simp; omega)))))
theorem len_none (w : World) : Calls Try.prog 24 #[.pointer none] w (Ret w (.int .i64 0)) := by
  go_enter Try.func24, Try.ntmps24
  go_wp2_with fail
  go_ret
  exact Ret.mk rfl (by repeat (first | with_reducible exact Below.refl _ _ | (with_reducible refine Below.al ?_) | (with_reducible refine Below.drew ?_) | (with_reducible refine Below.set ?_ (by first | (simp; done) | omega | (simp; omega))) | (with_reducible refine Below.thru ?_ (by assumption)) | (with_reducible refine Below.chg ?_ (by assumption) (by first | (simp; done) | omega | (simp; omega)))))
theorem cursor_any (s : Nat) (c : Int) (l : List El) (w : World) (S : Nat → Prop) (h : (siftA s c l).holds w S) : Calls Try.prog 25 #[.pointer (some ⟨s, 0, none⟩)] w (Ret w (.int .i64 c)) := by
  obtain ⟨d, H⟩ := sift_open h
  obtain ⟨z, k, f⟩ := H.box 0 rfl
  clear h H
  go_enter Try.func25, Try.ntmps25
  go_wp2_with fail
  go_ret
  exact Ret.mk rfl (by repeat (first | with_reducible exact Below.refl _ _ | (with_reducible refine Below.al ?_) | (with_reducible refine Below.drew ?_) | (with_reducible refine Below.set ?_ (by first | (simp; done) | omega | (simp; omega))) | (with_reducible refine Below.thru ?_ (by assumption)) | (with_reducible refine Below.chg ?_ (by assumption) (by first | (simp; done) | omega | (simp; omega)))))
theorem cursor_none (w : World) : Calls Try.prog 25 #[.pointer none] w (Ret w (.int .i64 0)) := by
  go_enter Try.func25, Try.ntmps25
  go_wp2_with fail
  go_ret
  exact Ret.mk rfl (by repeat (first | with_reducible exact Below.refl _ _ | (with_reducible refine Below.al ?_) | (with_reducible refine Below.drew ?_) | (with_reducible refine Below.set ?_ (by first | (simp; done) | omega | (simp; omega))) | (with_reducible refine Below.thru ?_ (by assumption)) | (with_reducible refine Below.chg ?_ (by assumption) (by first | (simp; done) | omega | (simp; omega)))))

def hasI (b s d : Nat) (c num : Int) (pre : List El) : List Asn := [andA (pre.any (fun x => x.1 == num) = false) (sepA [cellA b [.int .i64 num], cellA (b + 1) [.bool false], cellA s [.pointer (some ⟨d, 0, none⟩), .int .i64 c]])]
def hasX (b s d : Nat) (c num : Int) (k : Code) (pre : List El) : List Asn := [andA (k = .ret ∧ pre.any (fun x => x.1 == num) = true) (sepA [cellA b [.int .i64 num], cellA (b + 1) [.bool true], cellA s [.pointer (some ⟨d, 0, none⟩), .int .i64 c]])]
set_option maxRecDepth 100000 in
set_option maxHeartbeats 1000000 in
theorem has_any (s : Nat) (c : Int) (l : List El) (num : Int) (hl : l.length ≤ 100000) (w : World) (S : Nat → Prop) (h : (siftA s c l).holds w S) :
    Calls Try.prog 93 #[.pointer (some ⟨s, 0, none⟩), .int .i64 num] w (Fin w S (.bool (l.any fun x => x.1 == num)) [siftA s c l]) := by
  obtain ⟨d, H⟩ := sift_open h
  have H0 := (H.alloc [.int .i64 num] 3).alloc [.bool false] 4
  simp only [World.size_alloc] at H0
  obtain ⟨z, k, f⟩ := H.box 0 rfl
  clear h H
  replace H0 := Lib.hid H0
  refine callsIn_wide.1 (callsIn_of_wp_marks (n := 10) Try.func93 rfl trivial ?_ rfl)
  simp only [Try.ntmps93, List.size_toArray, List.length_cons, List.length_nil, Nat.reduceAdd, Nat.reduceSub, Array.replicate_succ, Array.replicate_zero, List.push_toArray, List.append_toArray, List.nil_append, List.cons_append]
  gi_wp2
  refine ⟨trivial, (callsIn_wide.2 (DockWait.all_new d _)).mono ?_⟩
  rintro e w1 ⟨b1, rfl, HA⟩
  simp only []
  have H1 : St w S w1 [cellA b1 [.pointer (some ⟨d, 0, none⟩)], cellA (w.heap.size + 1) [.bool false], cellA w.heap.size [.int .i64 num], cellA s [.pointer (some ⟨d, 0, none⟩), .int .i64 c], dockA d 33 l] := (H0.out.add HA)
  have H3 : St w S w1 ([cellA b1 [.pointer (some ⟨d, 0, none⟩)], dockA d 33 l] ++ hasI w.heap.size s d c num []) := (St.and (by simp) (St.join [_, _, _] [_, _] (H1.arr [2, 1, 3, 0, 4] rfl))).arr [1, 2, 0] rfl
  clear H0 H1 HA
  gi_wp2
  refine wpIn_range_st2 rfl (by decide) (gf := 100) (lb := #[.pointer (some ⟨b1, 0, none⟩)]) rfl trivial (enters_of Try.func100 (by kernel_rfl) rfl)
    (DockWait.all_iter _ d b1 33 l hl w S) (fun _ => rfl) (hasI w.heap.size s d c num) (hasX w.heap.size s d c num) H3 ?round ?done ?stop
  case round =>
    intro L pre x suf w1 hx
    obtain ⟨x1, x2, x3⟩ := x
    unfold val
    gi_wp2
    refine ⟨cellA w1.heap.size [.int .i64 x1, .string x2, .int .i64 x3], fun l' h => h.alloc _ _, ?_⟩
    intro p w3 hs
    obtain ⟨hno, h1⟩ := (hs.perm (List.perm_append_comm (l₁ := _ :: p))).unand 0 rfl
    have h2 : St w S w3 (cellA w.heap.size [.int .i64 num] :: cellA (w.heap.size + 1) [.bool false] :: cellA s [.pointer (some ⟨d, 0, none⟩), .int .i64 c] :: cellA w1.heap.size [.int .i64 x1, .string x2, .int .i64 x3] :: p) := St.unsep 0 h1 rfl
    obtain ⟨z0, c0, f0⟩ := h2.box 0 rfl
    obtain ⟨z1, c1, f1⟩ := h2.box 1 rfl
    obtain ⟨z3, c3, f3⟩ := h2.box 3 rfl
    clear hs h1 H3
    cases hq : (x1 == num) with
    | true =>
      have hyes : (pre ++ [(x1, x2, x3)]).any (fun x => x.1 == num) = true := by simp [hq]
      have h4 := ((h2.set 1 rfl 0 (.bool true) (by simp))).drop 3 rfl
      have hq2 : decide (x1 = num) = true := by simpa using hq
      replace h2 := Lib.hid h2; replace hno := Lib.hid hno; replace hx := Lib.hid hx; replace h4 := Lib.hid h4; replace hyes := Lib.hid hyes
      gi_wp2
      exact (St.and ⟨rfl, hyes.out⟩ (St.join [_, _, _] _ (h4.out.arrN [1, 0, 2] rfl))).perm (List.perm_append_comm (l₁ := [_]))
    | false =>
      have hno2 : (pre ++ [(x1, x2, x3)]).any (fun x => x.1 == num) = false := by rw [List.any_append, hno]; simp [hq]
      have hq2 : decide (x1 = num) = false := by simpa using hq
      have h4 := h2.drop 3 rfl
      replace h2 := Lib.hid h2; replace hno2 := Lib.hid hno2; replace hx := Lib.hid hx; replace h4 := Lib.hid h4
      gi_wp2
      exact (St.and hno2.out (St.join [_, _, _] _ h4.out)).perm (List.perm_append_comm (l₁ := [_]))
  case done =>
    intro D w2 hs
    have h0 := St.arr (l := [objA D (.deferred (some [])), cellA b1 [.pointer (some ⟨d, 0, none⟩)], dockA d 33 l, andA (l.any (fun x => x.1 == num) = false) (sepA [cellA w.heap.size [.int .i64 num], cellA (w.heap.size + 1) [.bool false], cellA s [.pointer (some ⟨d, 0, none⟩), .int .i64 c]])]) hs [3, 0, 1, 2] rfl
    obtain ⟨hno, h1⟩ := h0.unand 0 rfl
    have h2 := St.unsep 0 h1 rfl
    obtain ⟨z7, c7, f7⟩ := h2.box 1 rfl
    have h3 := (h2.set 1 rfl 0 (.bool false) (by simp))
    have hD := h3.obj 3 rfl
    have HP := h3.putObj 3 rfl (.deferred none)
    obtain ⟨z9, c9, f9⟩ := HP.box 1 rfl
    have HF : St w S _ [siftA s c l] := (sift_shut (HP.arrN [3, 5, 1, 2, 4, 0] rfl)).drops 1
    clear hs h0 h1 h2 h3 H3
    replace hD := Lib.hid hD; replace HF := Lib.hid HF; replace hno := Lib.hid hno
    gi_wp2
    refine ⟨by simp, .inl ⟨_, _, rfl, run_takeDeferred hD.out, ?_⟩⟩
    exact ⟨.bool false, by simp [results, Try.results93, go_sem, c9], by rw [hno.out], HF.out⟩
  case stop =>
    intro D k pre x suf w2 hx hs
    have h0 := St.arr (l := [objA D (.deferred (some [])), cellA b1 [.pointer (some ⟨d, 0, none⟩)], dockA d 33 l, andA (k = .ret ∧ (pre ++ [x]).any (fun x => x.1 == num) = true) (sepA [cellA w.heap.size [.int .i64 num], cellA (w.heap.size + 1) [.bool true], cellA s [.pointer (some ⟨d, 0, none⟩), .int .i64 c]])]) hs [3, 0, 1, 2] rfl
    obtain ⟨⟨rfl, hyes⟩, h1⟩ := h0.unand 0 rfl
    have h2 := St.unsep 0 h1 rfl
    have hD := h2.obj 3 rfl
    have HP := h2.putObj 3 rfl (.deferred none)
    obtain ⟨z8, c8, f8⟩ := HP.box 2 rfl
    have HF : St w S _ [siftA s c l] := (sift_shut (HP.arrN [3, 5, 1, 2, 4, 0] rfl)).drops 1
    have hall : l.any (fun x => x.1 == num) = true := by rw [hx, show pre ++ x :: suf = (pre ++ [x]) ++ suf by simp, List.any_append, hyes]; rfl
    clear hs h0 h1 h2 H3
    replace hD := Lib.hid hD; replace HF := Lib.hid HF; replace hx := Lib.hid hx; replace hall := Lib.hid hall
    gi_wp2
    refine ⟨by simp, .inl ⟨_, _, rfl, run_takeDeferred hD.out, ?_⟩⟩
    exact ⟨.bool true, by simp [results, Try.results93, go_sem, c8], by rw [hall.out], HF.out⟩
end Go.Proofs.Ytiaefmmcakagpaa.Sift

/- The walk of sift's run. -/
namespace Go.Proofs.Ytiaefmmcakagpaa.Sift
set_option linter.unusedSimpArgs false
set_option linter.unusedVariables false
open Go Go.RowKit Go.Shelf Go.Proofs.Ytiaefmmcakagpaa
open Go.Proofs.Ytiaefmmcakagpaa.DockWait (El enc val encs dockA dock_open dock_parts dock_shut)
attribute [local irreducible] Calls

abbrev Dg := Int × ByteArray
abbrev dgs (l : List Dg) : List Value := DockDg.encs l
def top : Int := 140737488355327
/-- Those one behind the other from a cursor on; the cursor then; those that go on waiting. -/
def runM : List El → Int → List Dg × Int × List El
  | [], c => ([], c, [])
  | x :: l, c => if x.1 = c + 1 then ((x.1, x.2.1) :: (runM l x.1).1, (runM l x.1).2) else ([], c, x :: l)

set_option maxRecDepth 100000 in
set_option maxHeartbeats 1000000 in
theorem run_any (s : Nat) (c : Int) (l : List El) (v : Value) (xs : List Dg) (hl : l.length ≤ 100000) (hxs : xs.length ≤ 100000) (hc0 : 0 ≤ c) (hc1 : c ≤ top) (hb : ∀ x ∈ l, x.1 ≤ top) (w : World) (S : Nat → Prop) (h : (sepA [rowA 2 v xs.length (dgs xs), siftA s c l]).holds w S) :
    Calls Try.prog 67 #[.pointer (some ⟨s, 0, none⟩), v] w (fun e w' => ∃ v', e = .returned v' ∧ St w S w' [rowA 2 v' (xs ++ (runM l c).1).length (dgs (xs ++ (runM l c).1)), siftA s (runM l c).2.1 (runM l c).2.2]) := by
  obtain ⟨i0, hi, hz, hz1, hz2⟩ := info_parts DelDg.el_info
  obtain ⟨d, H⟩ := sift_parts ((St.unsep 0 (St.start (Sep.one h)) rfl).arr [1, 0] rfl)
  obtain ⟨R, hR⟩ : ∃ R, R = runM l c := ⟨_, rfl⟩
  rw [← hR]
  obtain ⟨n, hn⟩ : ∃ n, n = l.length := ⟨_, rfl⟩
  unfold top at hc1 hb
  clear h
  replace H := Lib.hid H; replace hR := Lib.hid hR; replace hn := Lib.hid hn; replace hb := Lib.hid hb
  go_enter Try.func67, Try.ntmps67
  go_wp2_with fail
  go_step3
  go_wp2_with fail
  go_step3
  go_wp2_with fail
  go_loopg [1, 5, 6] n (fun g v1 _ _ wr => ∃ (pre : List Dg) (l' : List El) (c' : Int), l'.length = g ∧ g ≤ n ∧ 0 ≤ c' ∧ c' ≤ 140737488355327 ∧ Hid (∀ x ∈ l', x.1 ≤ 140737488355327) ∧ Hid (R = (pre ++ (runM l' c').1, (runM l' c').2)) ∧ pre.length + l'.length = n ∧
    St w S wr [cellA s [.pointer (some ⟨d, 0, none⟩), .int .i64 c'], dockA d 33 l', rowA 2 v1 (xs ++ pre).length (dgs (xs ++ pre))])
  case atStart =>
    refine ⟨[], l, c, hn.out.symm, Nat.le_refl _, hc0, hc1, hb.out, Lib.hid (by rw [hR.out, List.nil_append]), by simp [hn.out], ?_⟩
    rw [List.append_nil]
    exact H.out
  case round =>
    obtain ⟨pre, l', c', hg, hgn, hc0', hc1', hb', hR', hpl, hst⟩ := hrel
    obtain ⟨zs, ks, fs⟩ := hst.box 0 rfl
    obtain ⟨SD, hD⟩ := hst.held 1 rfl
    clear H hc0 hc1
    cases l' with
    | nil =>
      have P := DockWait.first_nil d 33 wr SD hD
      clear hD
      replace P := Lib.hid P; replace hst := Lib.hid hst; replace hg := Lib.hid hg; replace hpl := Lib.hid hpl
      go_wp2_with fail
      refine Calls.mono (P.out) ?_
      rintro e w1 ⟨rfl, hb1⟩
      have z1 := Below.size hb1; try simp only [World.size_alloc, World.size_setCell, World.size_drew] at z1
      have H1 := (hst.out.thru hb1)
      clear P
      replace H1 := Lib.hid H1
      go_wp2_with fail
      rw [Exit.noGoto_ret]
      go_ret
      have he := hR'.out
      simp only [runM, List.append_nil] at he
      rw [he]
      exact ⟨_, rfl, (sift_shut (H1.out.skip _)).arr [1, 0] rfl⟩
    | cons x l' =>
      obtain ⟨x1, x2, x3⟩ := x
      have P := DockWait.first_cons d 33 (x1, x2, x3) l' wr SD hD
      have hx1 : x1 ≤ 140737488355327 := hb'.out (x1, x2, x3) (by simp)
      have hw : IntKind.i64.wrap (c' + 1) = c' + 1 := by rw [IntKind.wrap_i64]; omega
      clear hD
      simp only [] at P
      replace P := Lib.hid P; replace hst := Lib.hid hst; replace hg := Lib.hid hg; replace hpl := Lib.hid hpl
      go_wp2_with fail
      refine Calls.mono (P.out) ?_
      rintro e w1 ⟨rfl, hb1⟩
      have z1 := Below.size hb1; try simp only [World.size_alloc, World.size_setCell, World.size_drew] at z1
      obtain ⟨c1_0, f1_0⟩ := Below.blk hb1 (b := s) (by first | (simp; done) | omega | (simp; omega))
      have z1_0 : s < w1.heap.size := (by first | (simp; done) | omega | (simp; omega))
      have H1 := (hst.out.thru hb1).alloc [.int .i64 x1, .string x2, .int .i64 x3] 98
      obtain ⟨z1, k1, f1⟩ := H1.box 0 rfl
      obtain ⟨z2, k2, f2⟩ := H1.box 1 rfl
      clear P
      replace H1 := Lib.hid H1
      go_wp2_with fail
      refine wp_region_near (by kernel_rfl) (by kernel_rfl) ?_
      intro hs
      repeat (go_big_quiet_step (fail))
      refine wpQuiet_nil ?_
      clear hs
      intro w2 hb2
      have H2 := H1.out.thru hb2
      obtain ⟨z3, k3, f3⟩ := H2.box 0 rfl
      obtain ⟨z4, k4, f4⟩ := H2.box 1 rfl
      clear H1 ks fs zs c1_0 f1_0 z1_0 z1 k1 f1 z2 k2 f2 hb1 hb2
      by_cases hq : x1 = c' + 1
      · have q1 : decide (x1 = c' + 1) = true := decide_eq_true hq
        have q2 : (x1 == c' + 1) = true := by simpa using hq
        have P2 := Calls.st_at 2 H2 rfl fun S h => DockWait.pull_cons d 33 (x1, x2, x3) l' _ S h
        have hne := H2.ne_cells 0 1 rfl rfl (by decide)
        have hR2 : R = ((pre ++ [(x1, x2)]) ++ (runM l' x1).1, (runM l' x1).2) := by rw [hR'.out, runM, if_pos hq]; simp
        clear H2
        replace hq := Lib.hid hq
        replace P2 := Lib.hid P2; replace hR2 := Lib.hid hR2
        go_wp2_with fail
        refine Calls.mono P2.out ?_
        rintro e w3 ⟨rfl, H3⟩
        clear P2 k3 k4 f3 f4 z3 z4
        obtain ⟨z5, k5, f5⟩ := H3.box 1 rfl
        obtain ⟨z6, k6, f6⟩ := H3.box 2 rfl
        have H4 := H3.set 2 rfl 1 (.int .i64 x1) (by simp)
        simp only [List.set_cons_succ, List.set_cons_zero, List.eraseIdx_cons_succ, List.eraseIdx_cons_zero] at H4
        obtain ⟨z7, k7, f7⟩ := H4.box 2 rfl
        replace H3 := Lib.hid H3; replace H4 := Lib.hid H4
        have hx3 : xs.length ≤ 100000 := hxs
        have hpl2 := hpl.out
        simp only [List.length_cons] at hpl2
        have hnl : n ≤ 100000 := by rw [hn.out]; exact hl
        have hlen : (xs ++ pre).length ≤ 300000 := by rw [List.length_append]; omega
        go_wp2_with (at_builtin; (refine wpList_appS rfl (.tmp 38) (.tmp 41) _ rfl 45 i0 _ 2 24 Try.underlying48 hi hz hz1 hz2 rfl (by omega) 3 _ (xs ++ pre).length (dgs (xs ++ pre)) rfl H4.out rfl 1 1 [.int .i64 x1, .string x2] rfl rfl (by simp [Value.oneCell']) (by omega) (by omega) ?_; intro v5 w5 H5; replace H5 := Lib.hid H5))
        go_roundg l'.length
        case measure => have := hg.out; simp only [List.length_cons] at this; omega
        case rel =>
          have h6 := (H5.out.arrN [1, 2, 0] rfl).drop 3 rfl
          have hq' := hq.out
          refine ⟨pre ++ [(x1, x2)], l', x1, rfl, by omega, by omega, hx1, Lib.hid (fun x hx => hb'.out x (List.mem_cons_of_mem _ hx)), hR2, by rw [List.length_append]; simp only [List.length_cons, List.length_nil]; omega, ?_⟩
          rw [← List.append_assoc, List.length_append, show dgs (xs ++ pre ++ [(x1, x2)]) = dgs (xs ++ pre) ++ [.int .i64 x1, .string x2] from (DockDg.encs_app _ _).symm]
          exact h6
      · have q1 : decide (x1 = c' + 1) = false := decide_eq_false hq
        have q2 : (x1 == c' + 1) = false := by simpa using hq
        have he : R = (pre, c', (x1, x2, x3) :: l') := by rw [hR'.out, runM, if_neg hq, List.append_nil]
        replace hq := Lib.hid hq
        replace H2 := Lib.hid H2; replace he := Lib.hid he
        go_wp2_with fail
        rw [Exit.noGoto_ret]
        go_ret
        rw [he.out]
        exact ⟨_, rfl, (sift_shut (H2.out.drop 0 rfl)).arr [1, 0] rfl⟩
end Go.Proofs.Ytiaefmmcakagpaa.Sift

/- The walks of sift's fits and upTo. -/
namespace Go.Proofs.Ytiaefmmcakagpaa.Sift
set_option linter.unusedSimpArgs false
set_option linter.unusedVariables false
open Go Go.RowKit Go.Shelf Go.Proofs.Ytiaefmmcakagpaa
open Go.Proofs.Ytiaefmmcakagpaa.DockWait (El enc val encs dockA dock_open dock_parts dock_shut)
attribute [local irreducible] Calls

def fitsM (c : Int) (l : List El) (num : Int) : Int × Bool := if num ≤ c then (2, false) else if l.any (fun x => x.1 == num) then (3, false) else if top < num then (4, false) else (1, true)
theorem fits_none (num : Int) (w : World) : Calls Try.prog 64 #[.pointer none, .int .i64 num] w (Ret w (.tuple #[.int .i64 2, .bool false])) := by
  go_enter Try.func64, Try.ntmps64
  go_wp2_with fail
  go_ret2
  exact Ret.mk rfl (by repeat (first | with_reducible exact Below.refl _ _ | (with_reducible refine Below.al ?_) | (with_reducible refine Below.drew ?_) | (with_reducible refine Below.set ?_ (by first | (simp; done) | omega | (simp; omega))) | (with_reducible refine Below.thru ?_ (by assumption)) | (with_reducible refine Below.chg ?_ (by assumption) (by first | (simp; done) | omega | (simp; omega)))))
set_option maxRecDepth 100000 in
theorem fits_any (s : Nat) (c : Int) (l : List El) (num : Int) (hl : l.length ≤ 100000) (w : World) (S : Nat → Prop) (h : (siftA s c l).holds w S) :
    Calls Try.prog 64 #[.pointer (some ⟨s, 0, none⟩), .int .i64 num] w (Fin w S (.tuple #[.int .i64 (fitsM c l num).1, .bool (fitsM c l num).2]) [siftA s c l]) := by
  have P := has_any s c l num hl w S h
  have H : St w S w [siftA s c l] := St.start (Sep.one h)
  obtain ⟨d, H1⟩ := sift_open h
  obtain ⟨z, k, f⟩ := H1.box 0 rfl
  obtain ⟨R, hR⟩ : ∃ R, R = fitsM c l num := ⟨_, rfl⟩
  rw [← hR]
  clear h H1
  unfold fitsM top at hR
  by_cases h1 : num ≤ c
  · have q1 : decide (num ≤ c) = true := decide_eq_true h1
    rw [if_pos h1] at hR
    subst hR
    replace P := Lib.hid P; replace H := Lib.hid H
    go_enter Try.func64, Try.ntmps64
    go_wp2_with fail
    go_ret2
    exact ⟨rfl, H.out⟩
  · have q1 : decide (num ≤ c) = false := decide_eq_false h1
    rw [if_neg h1] at hR
    cases h2 : (l.any fun x => x.1 == num) with
    | true =>
      rw [h2] at hR P
      simp only [if_pos] at hR
      subst hR
      replace P := Lib.hid P; replace H := Lib.hid H
      go_enter Try.func64, Try.ntmps64
      go_wp2_with fail
      refine Calls.mono P.out ?_
      rintro e w1 ⟨rfl, H1⟩
      clear P
      replace H1 := Lib.hid H1
      go_wp2_with fail
      go_ret2
      exact ⟨rfl, H1.out⟩
    | false =>
      rw [h2] at hR P
      simp only [Bool.false_eq_true, if_false] at hR
      by_cases h3 : (140737488355327 : Int) < num
      · have q3 : decide ((140737488355327 : Int) < num) = true := decide_eq_true h3
        rw [if_pos h3] at hR
        subst hR
        replace P := Lib.hid P; replace H := Lib.hid H
        go_enter Try.func64, Try.ntmps64
        go_wp2_with fail
        refine Calls.mono P.out ?_
        rintro e w1 ⟨rfl, H1⟩
        clear P
        replace H1 := Lib.hid H1
        go_wp2_with fail
        go_ret2
        exact ⟨rfl, H1.out⟩
      · have q3 : decide ((140737488355327 : Int) < num) = false := decide_eq_false h3
        rw [if_neg h3] at hR
        subst hR
        replace P := Lib.hid P; replace H := Lib.hid H
        go_enter Try.func64, Try.ntmps64
        go_wp2_with fail
        refine Calls.mono P.out ?_
        rintro e w1 ⟨rfl, H1⟩
        clear P
        replace H1 := Lib.hid H1
        go_wp2_with fail
        go_ret2
        exact ⟨rfl, H1.out⟩

theorem below_q (nb : Nat) (num : Int) (x : El) (w : World) (S : Nat → Prop) (h : (cellA nb [.int .i64 num]).holds w S) :
    Calls Try.prog 99 #[val x, .pointer (some ⟨nb, 0, none⟩)] w (Fin w S (.bool (decide (x.1 ≤ num))) [cellA nb [.int .i64 num]]) := by
  have H : St w S w [cellA nb [.int .i64 num]] := St.start (Sep.one h)
  obtain ⟨z, k, f⟩ := H.box 0 rfl
  obtain ⟨x1, x2, x3⟩ := x
  unfold val
  clear h
  replace H := Lib.hid H
  go_enter Try.func99, Try.ntmps99
  go_wp2_with fail
  go_ret
  exact ⟨rfl, H.out.skip _⟩
theorem outs_pure (p : El → Bool) : ∀ (l pre : List El), DockWait.outs (fun _ => p) pre l = l.filter p
  | [], _ => rfl
  | x :: l, pre => by
    simp only [DockWait.outs, List.filter_cons]
    rw [outs_pure p l]
    split <;> simp
theorem rests_pure (p : El → Bool) : ∀ (l pre : List El), DockWait.rests (fun _ => p) pre l = l.filter fun x => !p x
  | [], _ => rfl
  | x :: l, pre => by
    simp only [DockWait.rests, List.filter_cons]
    rw [rests_pure p l]
    by_cases h : p x = true <;> simp [h]
def dg (x : El) : Dg := (x.1, x.2.1)
def lastN (c : Int) (l : List El) : Int := l.foldl (fun _ x => x.1) c
/-- Those up to a number, and those right behind. -/
def upM (num c : Int) (l : List El) : List Dg × Int × List El :=
  ((l.filter fun x => decide (x.1 ≤ num)).map dg ++ (runM (l.filter fun x => !decide (x.1 ≤ num)) (lastN c (l.filter fun x => decide (x.1 ≤ num)))).1, (runM (l.filter fun x => !decide (x.1 ≤ num)) (lastN c (l.filter fun x => decide (x.1 ≤ num)))).2)

theorem lastN_snoc (c : Int) (l : List El) (x : El) : lastN c (l ++ [x]) = x.1 := by simp [lastN]
theorem lastN_bd {c : Int} {l : List El} (hc0 : 0 ≤ c) (hc1 : c ≤ top) (hb : ∀ x ∈ l, 0 < x.1 ∧ x.1 ≤ top) : 0 ≤ lastN c l ∧ lastN c l ≤ top := by
  unfold lastN
  induction l generalizing c with
  | nil => exact ⟨hc0, hc1⟩
  | cons x l ih =>
    have := hb x (by simp)
    simp only [List.foldl_cons]
    exact ih (c := x.1) (by omega) this.2 fun y hy => hb y (List.mem_cons_of_mem _ hy)
set_option maxRecDepth 100000 in
set_option maxHeartbeats 1000000 in
theorem upTo_any (s : Nat) (c : Int) (l : List El) (num : Int) (hl : l.length ≤ 100000) (hc0 : 0 ≤ c) (hc1 : c ≤ top) (hb : ∀ x ∈ l, 0 < x.1 ∧ x.1 ≤ top) (w : World) (S : Nat → Prop) (h : (siftA s c l).holds w S) :
    Calls Try.prog 70 #[.pointer (some ⟨s, 0, none⟩), .int .i64 num] w (fun e w' => ∃ v', e = .returned v' ∧ St w S w' [rowA 2 v' (upM num c l).1.length (dgs (upM num c l).1), siftA s (upM num c l).2.1 (upM num c l).2.2]) := by
  obtain ⟨i0, hi, hz, hz1, hz2⟩ := info_parts DelDg.el_info
  obtain ⟨d, H⟩ := sift_open h
  obtain ⟨z, k, f⟩ := H.box 0 rfl
  have H0 := H.alloc [.int .i64 num] 3
  have H1 := H0.arr [1, 2, 0] rfl
  have H2 := (H1.front 1 rfl).arr [0, 2, 1] rfl
  have H3 : St w S _ (sepA [dockA d 33 l, cellA w.heap.size [.int .i64 num]] :: [cellA s [.pointer (some ⟨d, 0, none⟩), .int .i64 c]]) := St.join [_, _] [_] H2
  obtain ⟨S3, hS3, _, back⟩ := H3.at 0 rfl
  have P := DockWait.sweep_any d 33 l hl 99 #[.pointer (some ⟨w.heap.size, 0, none⟩)] (enters_of Try.func99 (by kernel_rfl) rfl) (fun _ x => decide (x.1 ≤ num)) (fun _ => cellA w.heap.size [.int .i64 num])
    (fun pre x suf w' S _ h => below_q w.heap.size num x w' S h) _ S3 hS3
  rw [outs_pure, rests_pure] at P
  obtain ⟨R, hR⟩ : ∃ R, R = upM num c l := ⟨_, rfl⟩
  rw [← hR]
  unfold upM at hR
  clear h H H0 H1 H2 H3 hS3
  replace P := Lib.hid P; replace back := Lib.hid back; replace hb := Lib.hid hb; replace hR := Lib.hid hR
  go_enter Try.func70, Try.ntmps70
  go_wp2_with fail
  refine Calls.mono P.out ?_
  rintro e w1 ⟨ov, rfl, hst⟩
  have H4 := back.out _ _ hst
  clear P back hst
  have hb1 : ∀ x ∈ l.filter (fun x => decide (x.1 ≤ num)), 0 < x.1 ∧ x.1 ≤ top := fun x hx => hb.out x ((List.mem_filter.1 hx).1)
  have hb2 : ∀ x ∈ l.filter (fun x => !decide (x.1 ≤ num)), 0 < x.1 ∧ x.1 ≤ top := fun x hx => hb.out x ((List.mem_filter.1 hx).1)
  have hl1 : (l.filter (fun x => decide (x.1 ≤ num))).length ≤ 100000 := Nat.le_trans (List.length_filter_le _ _) hl
  have hl2 : (l.filter (fun x => !decide (x.1 ≤ num))).length ≤ 100000 := Nat.le_trans (List.length_filter_le _ _) hl
  replace hR := hR.out
  generalize l.filter (fun x => decide (x.1 ≤ num)) = O at *
  generalize l.filter (fun x => !decide (x.1 ≤ num)) = T at *
  simp only [List.cons_append, List.nil_append, List.eraseIdx_cons_zero] at H4
  have H5 : St w S w1 [rowA 3 ov O.length (encs O), dockA d 33 T, cellA s [.pointer (some ⟨d, 0, none⟩), .int .i64 c]] := H4.drop 2 rfl
  clear H4 hb
  obtain ⟨oa, oc, rfl, hon, hocm, hoa0, hoR⟩ := St.slice (by omega) 0 H5 rfl
  clear hoa0 hoR
  have H6 : St w S w1 _ := H5.row_nil (size := 2)
  clear H5 k f z
  replace H6 := Lib.hid H6; replace hR := Lib.hid hR; replace hb1 := Lib.hid hb1; replace hb2 := Lib.hid hb2
  go_wp2_with fail
  go_loopg [5, 7, 15] O.length (fun g v5 _ i wr => ∃ j : Nat, j ≤ O.length ∧ g = O.length - j ∧ i = .int .i64 j ∧
    St w S wr [rowA 2 v5 ((O.take j).map dg).length (dgs ((O.take j).map dg)), rowA 3 (.slice oa O.length oc) O.length (encs O), dockA d 33 T, cellA s [.pointer (some ⟨d, 0, none⟩), .int .i64 (lastN c (O.take j))]])
  case atStart => exact ⟨0, by omega, by omega, rfl, H6.out⟩
  case round =>
    obtain ⟨j, hj, hg, rfl, hst⟩ := hrel
    clear H6
    by_cases hlt : j < O.length
    · have hRd := St.rd (by omega) 1 hst rfl
      obtain ⟨b, off, rfl, hbb, hc⟩ := Rd.rows DockWait.enc_len (by omega) hRd rfl (by omega)
      obtain ⟨x, hx⟩ : ∃ x, x = O[j] := ⟨_, rfl⟩
      have e0 := hc j hlt
      rw [← hx] at e0
      have e00 := e0 0 _ rfl; try simp only [Nat.add_zero] at e00
      have e01 := e0 1 _ rfl; try simp only [Nat.add_zero] at e01
      have e02 := e0 2 _ rfl; try simp only [Nat.add_zero] at e02
      have htk : O.take (j + 1) = O.take j ++ [x] := by rw [hx, List.take_succ_eq_append_getElem hlt]
      obtain ⟨x1, x2, x3⟩ := x
      have H1 := hst.alloc [.int .i64 x1, .string x2, .int .i64 x3] 98
      obtain ⟨z1, k1, f1⟩ := H1.box 0 rfl
      obtain ⟨z2, k2, f2⟩ := hst.box 3 rfl
      obtain ⟨z4, k4, f4⟩ := H1.box 4 rfl
      have hne := H1.ne_cells 0 4 rfl rfl (by decide)
      have H2 := (hst.set 3 rfl 1 (.int .i64 x1) (by simp)).alloc [.int .i64 x1, .string x2, .int .i64 x3] 98
      simp only [List.set_cons_succ, List.set_cons_zero, List.eraseIdx_cons_succ, List.eraseIdx_cons_zero] at H2
      have hsz : (wr.setCell ⟨s, 1, none⟩ (.int .i64 x1)).heap.size = wr.heap.size := by simp
      rw [hsz] at H2
      clear hsz
      obtain ⟨z3, k3, f3⟩ := H2.box 0 rfl
      have hml : ((O.take j).map dg).length ≤ 100000 := by rw [List.length_map, List.length_take]; omega
      clear hc hRd hst e0 hx
      replace H1 := Lib.hid H1; replace H2 := Lib.hid H2; replace htk := Lib.hid htk; replace hg := Lib.hid hg
      go_wp2_with (at_builtin; (refine wpList_appS rfl (.tmp 25) (.tmp 28) _ rfl 45 i0 _ 2 24 Try.underlying48 hi hz hz1 hz2 rfl (by omega) 2 _ ((O.take j).map dg).length (dgs ((O.take j).map dg)) rfl H2.out rfl 1 1 [.int .i64 x1, .string x2] rfl rfl (by simp [Value.oneCell']) (by omega) (by omega) ?_; intro v5 w5 H5; replace H5 := Lib.hid H5))
      go_roundg (O.length - (j + 1))
      case measure => have := hg.out; omega
      case rel =>
        refine ⟨j + 1, by omega, rfl, by go_num, ?_⟩
        rw [htk.out, List.map_append, lastN_snoc, List.length_append, show dgs ((O.take j).map dg ++ [(x1, x2, x3)].map dg) = dgs ((O.take j).map dg) ++ [.int .i64 x1, .string x2] from (DockDg.encs_app _ _).symm]
        exact (H5.out.drop 1 rfl).arr [0, 2, 3, 1] rfl
    · obtain rfl : j = O.length := by omega
      rw [List.take_length] at hst
      have hla := lastN_bd hc0 hc1 hb1.out
      have H1 := sift_shut ((hst.drop 1 rfl).arr [2, 1, 0] rfl)
      have H2 : St w S wr [rowA 2 u5 (O.map dg).length (dgs (O.map dg)), siftA s (lastN c O) T] := H1.arr [1, 0] rfl
      obtain ⟨S4, hS4, _, back⟩ := H2.all.at 0 rfl
      have P := run_any s (lastN c O) T u5 (O.map dg) hl2 (by rw [List.length_map]; exact hl1) hla.1 hla.2 (fun x hx => (hb2.out x hx).2) wr S4 hS4
      clear H1 H2 hst hS4 hg
      replace P := Lib.hid P; replace back := Lib.hid back
      go_wp2_with fail
      refine Calls.mono P.out ?_
      rintro e w2 ⟨v', rfl, H3⟩
      have H4 := back.out _ _ H3
      clear P back H3
      replace H4 := Lib.hid H4
      go_wp2_with fail
      go_ret
      rw [hR.out]
      exact ⟨_, rfl, H4.out⟩
end Go.Proofs.Ytiaefmmcakagpaa.Sift

/- The walk of sift's Put. -/
namespace Go.Proofs.Ytiaefmmcakagpaa.Sift
set_option linter.unusedSimpArgs false
set_option linter.unusedVariables false
open Go Go.RowKit Go.Shelf Go.Proofs.Ytiaefmmcakagpaa
open Go.Proofs.Ytiaefmmcakagpaa.DockWait (El enc val encs dockA dock_open dock_parts dock_shut placed headV)
attribute [local irreducible] Calls

def lay (d : Dg) (till : Int) (l : List El) : List El := placed (fun w => decide (d.1 < w.1)) (d.1, d.2, till) l
def putM (c : Int) (l : List El) (d : Dg) (till : Int) : (Int × List Dg) × Int × List El :=
  if (fitsM c l d.1).2 = true then
    if d.1 = c + 1 then ((0, (runM (lay d till l) c).1), (runM (lay d till l) c).2)
    else if 32 < (lay d till l).length then ((1, (upM (headV (lay d till l)).1 c (lay d till l)).1), (upM (headV (lay d till l)).1 c (lay d till l)).2)
    else ((1, []), c, lay d till l)
  else (((fitsM c l d.1).1, []), c, l)
theorem lay_len (d : Dg) (till : Int) (l : List El) : (lay d till l).length = l.length + 1 := by
  have : l.findIdx (fun w => decide (d.1 < w.1)) ≤ l.length := List.findIdx_le_length
  simp only [lay, placed, List.length_append, List.length_take, List.length_cons, List.length_drop]
  omega
theorem lay_mem {d : Dg} {till : Int} {l : List El} {y : El} (h : y ∈ lay d till l) : y = (d.1, d.2, till) ∨ y ∈ l := by
  unfold lay placed at h
  rcases List.mem_append.1 h with h | h
  · exact .inr (List.mem_of_mem_take h)
  · rcases List.mem_cons.1 h with h | h
    · exact .inl h
    · exact .inr (List.mem_of_mem_drop h)
theorem above_q (b : Nat) (d : Dg) (x : El) (w : World) (h : Box w b [.int .i64 d.1, .string d.2]) :
    Calls Try.prog 66 (#[val x] ++ #[.pointer (some ⟨b, 0, none⟩)]) w (Ret w (.bool (decide (d.1 < x.1)))) := by
  obtain ⟨z, k, f⟩ := h
  obtain ⟨x1, x2, x3⟩ := x
  unfold val
  simp only [List.push_toArray, List.append_toArray, List.nil_append, List.cons_append]
  go_enter Try.func66, Try.ntmps66
  go_wp2_with fail
  go_ret
  exact Ret.mk rfl (by repeat (first | with_reducible exact Below.refl _ _ | (with_reducible refine Below.al ?_) | (with_reducible refine Below.drew ?_) | (with_reducible refine Below.set ?_ (by first | (simp; done) | omega | (simp; omega))) | (with_reducible refine Below.thru ?_ (by assumption)) | (with_reducible refine Below.chg ?_ (by assumption) (by first | (simp; done) | omega | (simp; omega)))))
theorem fits_facts {c num : Int} {l : List El} (h : (fitsM c l num).2 = true) : c < num ∧ num ≤ top ∧ (l.any fun x => x.1 == num) = false := by
  unfold fitsM at h
  split at h
  · cases h
  · split at h
    · cases h
    · split at h
      · cases h
      · rename_i h1 h2 h3
        exact ⟨by omega, by omega, by cases hq : (l.any fun x => x.1 == num) with | true => exact absurd hq h2 | false => rfl⟩

set_option maxRecDepth 100000 in
set_option maxHeartbeats 1000000 in
theorem put_any (s : Nat) (c : Int) (l : List El) (d : Dg) (till : Int) (hl : l.length ≤ 32) (hc0 : 0 ≤ c) (hc1 : c ≤ top) (hb : ∀ x ∈ l, 0 < x.1 ∧ x.1 ≤ top) (w : World) (S : Nat → Prop) (h : (siftA s c l).holds w S) :
    Calls Try.prog 22 #[.pointer (some ⟨s, 0, none⟩), .agg #[.int .i64 d.1, .string d.2], .int .i64 till] w (fun e w' => ∃ v', e = .returned (.tuple #[.int .i64 (putM c l d till).1.1, v']) ∧ St w S w' [rowA 2 v' (putM c l d till).1.2.length (dgs (putM c l d till).1.2), siftA s (putM c l d till).2.1 (putM c l d till).2.2]) := by
  obtain ⟨R, hR⟩ : ∃ R, R = putM c l d till := ⟨_, rfl⟩
  rw [← hR]
  have H0 : St w S w [siftA s c l] := St.start (Sep.one h)
  have H1 := H0.alloc [.int .i64 d.1, .string d.2] 45
  have P := Calls.st_at 1 H1 rfl fun S h => fits_any s c l d.1 (by omega) _ S h
  have hff := @fits_facts c d.1 l
  obtain ⟨z0, k0, f0⟩ := H1.box 0 rfl
  unfold putM at hR
  unfold top at hc1
  obtain ⟨d1, d2⟩ := d
  clear h H0 H1
  simp only [] at hR hff P k0 f0 z0
  generalize hfm : fitsM c l d1 = fm at *
  obtain ⟨what, ok⟩ := fm
  simp only [] at hR hff P
  cases ok with
  | false =>
    simp only [Bool.false_eq_true, if_false] at hR
    subst hR
    clear hff hfm
    replace P := Lib.hid P; replace hb := Lib.hid hb
    go_enter Try.func22, Try.ntmps22
    go_wp2_with fail
    refine Calls.mono P.out ?_
    rintro e w1 ⟨rfl, H2⟩
    clear P
    replace H2 := Lib.hid H2
    go_wp2_with fail
    go_ret2
    exact ⟨_, rfl, (H2.out.drops 1).row_nil⟩
  | true =>
    obtain ⟨hd1, hd2, _⟩ := hff rfl
    simp only [if_true] at hR
    unfold top at hd2
    clear hff
    replace P := Lib.hid P; replace hb := Lib.hid hb; replace hR := Lib.hid hR; replace hfm := Lib.hid hfm
    go_enter Try.func22, Try.ntmps22
    go_wp2_with fail
    refine Calls.mono P.out ?_
    rintro e w1 ⟨rfl, H2⟩
    obtain ⟨dk, H3⟩ := sift_parts H2
    have H4 := H3.drew
    have hw : IntKind.i64.wrap (c + 1) = c + 1 := by rw [IntKind.wrap_i64]; omega
    have P2 := Calls.st_at 1 H4 rfl fun S h => DockWait.place_any dk 33 l (d1, d2, till) _ S h (by omega) (by omega) 66 #[.pointer (some ⟨w.heap.size, 0, none⟩)] (enters_of Try.func66 (by kernel_rfl) rfl) (fun x => decide (d1 < x.1))
      (fun x w' hbw => above_q w.heap.size (d1, d2) x w' ((H4.box 2 rfl).below hbw))
    obtain ⟨z1, k1, f1⟩ := H3.box 0 rfl
    obtain ⟨z2, k2, f2⟩ := H3.box 2 rfl
    simp only [val] at P2
    clear P H2 H4 z0 k0 f0
    replace H3 := Lib.hid H3; replace P2 := Lib.hid P2
    go_wp2_with fail
    go_region_law (go_simp; go_at_call 65; refine Calls.mono P2.out ?_; rintro e w2 ⟨rfl, H5⟩; replace H5 := Lib.hid H5)
    all_goals
      have H6 : St w S w2 [dockA dk 33 (lay (d1, d2) till l), cellA s [.pointer (some ⟨dk, 0, none⟩), .int .i64 c], cellA w.heap.size [.int .i64 d1, .string d2]] := H5.out
      obtain ⟨z5, k5, f5⟩ := H6.box 1 rfl
      obtain ⟨z6, k6, f6⟩ := H6.box 2 rfl
      have hn := lay_len (d1, d2) till l
      have hmem : ∀ x ∈ lay (d1, d2) till l, 0 < x.1 ∧ x.1 ≤ top := fun x hx => by
        rcases lay_mem hx with rfl | hx
        · exact ⟨by show 0 < d1; omega, by unfold top; exact hd2⟩
        · exact hb.out x hx
      have hR2 := hR.out
      generalize lay (d1, d2) till l = L at *
      clear H5 P2 H3 k1 f1 z1 k2 f2 z2 hR
      replace H6 := Lib.hid H6; replace hn := Lib.hid hn; replace hmem := Lib.hid hmem; replace hR2 := Lib.hid hR2
      go_wp2_with fail
      refine wp_region_near (by kernel_rfl) (by kernel_rfl) ?_
      intro hs
      repeat (go_big_quiet_step (fail))
      refine wpQuiet_nil ?_
      clear hs
      intro w3 hb3
      have H7 := H6.out.thru hb3
      obtain ⟨z7, k7, f7⟩ := H7.box 1 rfl
      clear k5 f5 z5 k6 f6 z6 H6 hb3
      by_cases hq : d1 = c + 1
      · have q1 : decide (d1 = c + 1) = true := decide_eq_true hq
        have q2 : (d1 == c + 1) = true := by simpa using hq
        have hR3 := hR2.out
        rw [if_pos hq] at hR3
        have H8 := (sift_shut ((H7.arr [1, 0, 2] rfl))).row_nil (size := 2)
        obtain ⟨S9, hS9, _, back⟩ := (St.join [_, _] [_] H8).at 0 rfl
        have P3 := run_any s c L _ [] (by have := hn.out; omega) (by simp) hc0 hc1 (fun x hx => (hmem.out x hx).2) w3 S9 hS9
        clear H7 H8 hS9 hR2
        replace hq := Lib.hid hq
        replace P3 := Lib.hid P3; replace back := Lib.hid back; replace hR3 := Lib.hid hR3
        go_wp2_with fail
        refine Calls.mono P3.out ?_
        rintro e w4 ⟨v', rfl, H9⟩
        have H10 := back.out _ _ H9
        clear P3 back H9
        replace H10 := Lib.hid H10
        go_wp2_with fail
        go_ret2
        rw [hR3.out]
        refine ⟨v', rfl, ?_⟩
        exact H10.out.drops 2
      · have q1 : decide (d1 = c + 1) = false := decide_eq_false hq
        have q2 : (d1 == c + 1) = false := by simpa using hq
        have hR3 := hR2.out
        rw [if_neg hq] at hR3
        obtain ⟨SD, hSD⟩ := H7.held 0 rfl
        have P3 := DockWait.first_any dk 33 L w3 SD hSD
        have P4 := fun w' (h : Below w3.heap.size w3 w') (S : Nat → Prop) (hS : (dockA dk 33 L).holds w' S) => DockWait.len_any dk 33 L w' S hS
        obtain ⟨y, hy⟩ : ∃ y, y = headV L := ⟨_, rfl⟩
        rw [← hy] at P3 hR3
        obtain ⟨y1, y2, y3⟩ := y
        simp only [val] at P3
        replace hq := Lib.hid hq
        clear hR2 hSD
        replace P3 := Lib.hid P3; replace P4 := Lib.hid P4; replace hR3 := Lib.hid hR3; replace H7 := Lib.hid H7; replace hy := Lib.hid hy
        go_wp2_with fail
        refine Calls.mono P3.out ?_
        rintro e w4 ⟨rfl, hb4⟩
        have H8 := (H7.out.thru hb4).alloc [.int .i64 y1, .string y2, .int .i64 y3] 98
        obtain ⟨z8, k8, f8⟩ := H8.box 0 rfl
        obtain ⟨z9, k9, f9⟩ := H8.box 2 rfl
        obtain ⟨SE, hSE⟩ := H8.held 1 rfl
        have P5 := DockWait.len_any dk 33 L _ SE hSE
        clear P3 P4 H7 k7 f7 z7 hSE
        replace H8 := Lib.hid H8; replace P5 := Lib.hid P5
        go_wp2_with fail
        refine Calls.mono P5.out ?_
        rintro e w5 ⟨rfl, hb5⟩
        have H9 := H8.out.thru hb5
        obtain ⟨z10, k10, f10⟩ := H9.box 0 rfl
        clear P5 H8 z8 k8 f8 z9 k9 f9
        by_cases hq3 : 32 < L.length
        · have q3 : decide ((32 : Int) < (L.length : Int)) = true := decide_eq_true (by omega)
          have hR4 := hR3.out
          rw [if_pos hq3] at hR4
          have H10 := sift_shut (H9.arr [2, 1, 0, 3] rfl)
          obtain ⟨S9, hS9, _, back⟩ := H10.at 0 rfl
          have P6 := upTo_any s c L y1 (by have := hn.out; omega) hc0 hc1 hmem.out w5 S9 hS9
          clear H9 H10 hS9 hR3
          replace hq3 := Lib.hid hq3
          replace P6 := Lib.hid P6; replace back := Lib.hid back; replace hR4 := Lib.hid hR4
          go_wp2_with fail
          refine Calls.mono P6.out ?_
          rintro e w6 ⟨v', rfl, H11⟩
          have H12 := back.out _ _ H11
          clear P6 back H11
          replace H12 := Lib.hid H12
          go_wp2_with fail
          go_ret2
          rw [hR4.out]
          refine ⟨v', rfl, ?_⟩
          exact H12.out.drops 2
        · have q3 : decide ((32 : Int) < (L.length : Int)) = false := decide_eq_false (by omega)
          have hR4 := hR3.out
          rw [if_neg hq3] at hR4
          have H10 := ((sift_shut (H9.arr [2, 1, 0, 3] rfl)).drops 1).row_nil (size := 2)
          clear H9 hR3
          replace hq3 := Lib.hid hq3
          replace H10 := Lib.hid H10; replace hR4 := Lib.hid hR4
          go_wp2_with fail
          go_ret2
          rw [hR4.out]
          exact ⟨_, rfl, H10.out⟩
end Go.Proofs.Ytiaefmmcakagpaa.Sift

/- The walks of sift's Due and Latest. -/
namespace Go.Proofs.Ytiaefmmcakagpaa.Sift
set_option linter.unusedSimpArgs false
set_option linter.unusedVariables false
open Go Go.RowKit Go.Shelf Go.Proofs.Ytiaefmmcakagpaa
open Go.Proofs.Ytiaefmmcakagpaa.DockWait (El enc val encs dockA dock_open dock_parts dock_shut placed headV)
attribute [local irreducible] Calls
attribute [local go_sem] Oper.semAt_some

def dueN (now : Int) (l : List El) : Int := l.foldl (fun a x => if x.2.2 ≤ now then x.1 else a) 0
def dueM (c : Int) (l : List El) (now : Int) : List Dg × Int × List El := if dueN now l = 0 then ([], c, l) else upM (dueN now l) c l
theorem due_none (now : Int) (w : World) : Calls Try.prog 23 #[.pointer none, .int .i64 now] w (Ret w (.slice none 0 0)) := by
  have H := (St.zero w).alloc [.int .i64 now] 3
  replace H := Lib.hid H
  refine callsIn_wide.1 (callsIn_of_wp_marks (n := 10) Try.func23 rfl trivial ?_ rfl)
  simp only [Try.ntmps23, List.size_toArray, List.length_cons, List.length_nil, Nat.reduceAdd, Nat.reduceSub, Array.replicate_succ, Array.replicate_zero, List.push_toArray, List.append_toArray, List.nil_append, List.cons_append]
  gi_wp2
  exact ⟨.slice none 0 0, by simp [results, Try.results23, go_sem], rfl, H.out.below⟩
def dueI (b s d : Nat) (c now : Int) (pre : List El) : List Asn := [sepA [cellA b [.int .i64 now], cellA (b + 1) [.int .i64 (dueN now pre)], cellA s [.pointer (some ⟨d, 0, none⟩), .int .i64 c]]]
theorem dueN_snoc (now : Int) (l : List El) (x : El) : dueN now (l ++ [x]) = if x.2.2 ≤ now then x.1 else dueN now l := by simp [dueN]
set_option maxRecDepth 100000 in
set_option maxHeartbeats 1000000 in
theorem due_any (s : Nat) (c : Int) (l : List El) (now : Int) (hl : l.length ≤ 100000) (hc0 : 0 ≤ c) (hc1 : c ≤ top) (hb : ∀ x ∈ l, 0 < x.1 ∧ x.1 ≤ top) (w : World) (S : Nat → Prop) (h : (siftA s c l).holds w S) :
    Calls Try.prog 23 #[.pointer (some ⟨s, 0, none⟩), .int .i64 now] w (fun e w' => ∃ v', e = .returned v' ∧ St w S w' [rowA 2 v' (dueM c l now).1.length (dgs (dueM c l now).1), siftA s (dueM c l now).2.1 (dueM c l now).2.2]) := by
  obtain ⟨R, hR⟩ : ∃ R, R = dueM c l now := ⟨_, rfl⟩
  rw [← hR]
  obtain ⟨d, H⟩ := sift_open h
  have H0 := (H.alloc [.int .i64 now] 3).alloc [.int .i64 0] 3
  simp only [World.size_alloc] at H0
  obtain ⟨z, k, f⟩ := H.box 0 rfl
  clear h H
  replace H0 := Lib.hid H0; replace hb := Lib.hid hb; replace hR := Lib.hid hR
  refine callsIn_wide.1 (callsIn_of_wp_marks (n := 10) Try.func23 rfl trivial ?_ rfl)
  simp only [Try.ntmps23, List.size_toArray, List.length_cons, List.length_nil, Nat.reduceAdd, Nat.reduceSub, Array.replicate_succ, Array.replicate_zero, List.push_toArray, List.append_toArray, List.nil_append, List.cons_append]
  gi_wp2
  refine ⟨trivial, (callsIn_wide.2 (DockWait.all_new d _)).mono ?_⟩
  rintro e w1 ⟨b1, rfl, HA⟩
  simp only []
  have H1 : St w S w1 [cellA b1 [.pointer (some ⟨d, 0, none⟩)], cellA (w.heap.size + 1) [.int .i64 0], cellA w.heap.size [.int .i64 now], cellA s [.pointer (some ⟨d, 0, none⟩), .int .i64 c], dockA d 33 l] := (H0.out.add HA)
  have H3 : St w S w1 ([cellA b1 [.pointer (some ⟨d, 0, none⟩)], dockA d 33 l] ++ dueI w.heap.size s d c now []) := (St.join [_, _, _] [_, _] (H1.arr [2, 1, 3, 0, 4] rfl)).arr [1, 2, 0] rfl
  clear H0 H1 HA
  gi_wp2
  refine wpIn_range_st2 rfl (by decide) (gf := 100) (lb := #[.pointer (some ⟨b1, 0, none⟩)]) rfl trivial (enters_of Try.func100 (by kernel_rfl) rfl)
    (DockWait.all_iter _ d b1 33 l hl w S) (fun _ => rfl) (dueI w.heap.size s d c now) (fun _ _ => [andA False (sepA [])]) H3 ?round ?done ?stop
  case stop =>
    intro D c pre x suf w2 _ hs
    exact (hs.unand 3 rfl).1.elim
  case round =>
    intro L pre x suf w1 hx
    obtain ⟨x1, x2, x3⟩ := x
    unfold val
    gi_wp2
    refine ⟨cellA w1.heap.size [.int .i64 x1, .string x2, .int .i64 x3], fun l' h => h.alloc _ _, ?_⟩
    intro p w3 hs
    have h2 : St w S w3 (cellA w.heap.size [.int .i64 now] :: cellA (w.heap.size + 1) [.int .i64 (dueN now pre)] :: cellA s [.pointer (some ⟨d, 0, none⟩), .int .i64 c] :: cellA w1.heap.size [.int .i64 x1, .string x2, .int .i64 x3] :: p) := St.unsep 0 (hs.perm (List.perm_append_comm (l₁ := _ :: p))) rfl
    obtain ⟨z0, c0, f0⟩ := h2.box 0 rfl
    obtain ⟨z1, c1, f1⟩ := h2.box 1 rfl
    obtain ⟨z3, c3, f3⟩ := h2.box 3 rfl
    clear hs H3
    have hsn := dueN_snoc now pre (x1, x2, x3)
    simp only [] at hsn
    by_cases hq : x3 ≤ now
    · have hq2 : decide (x3 ≤ now) = true := decide_eq_true hq
      rw [if_pos hq] at hsn
      have h4 := ((h2.set 1 rfl 0 (.int .i64 x1) (by simp))).drop 3 rfl
      replace h2 := Lib.hid h2; replace hx := Lib.hid hx; replace h4 := Lib.hid h4; replace hsn := Lib.hid hsn
      gi_wp2
      refine (St.join [_, _, _] p (?_ : St w S _ (cellA w.heap.size [.int .i64 now] :: cellA (w.heap.size + 1) [.int .i64 (dueN now (pre ++ [(x1, x2, x3)]))] :: cellA s [.pointer (some ⟨d, 0, none⟩), .int .i64 c] :: p))).perm (List.perm_append_comm (l₁ := [_]))
      rw [hsn.out]
      exact h4.out.arrN [1, 0, 2] rfl
    · have hq2 : decide (x3 ≤ now) = false := decide_eq_false hq
      rw [if_neg hq] at hsn
      have h4 := h2.drop 3 rfl
      replace h2 := Lib.hid h2; replace hx := Lib.hid hx; replace h4 := Lib.hid h4; replace hsn := Lib.hid hsn
      gi_wp2
      refine (St.join [_, _, _] p (?_ : St w S _ (cellA w.heap.size [.int .i64 now] :: cellA (w.heap.size + 1) [.int .i64 (dueN now (pre ++ [(x1, x2, x3)]))] :: cellA s [.pointer (some ⟨d, 0, none⟩), .int .i64 c] :: p))).perm (List.perm_append_comm (l₁ := [_]))
      rw [hsn.out]
      exact h4.out
  case done =>
    intro D w2 hs
    have h0 := St.arr (l := [objA D (.deferred (some [])), cellA b1 [.pointer (some ⟨d, 0, none⟩)], dockA d 33 l, sepA [cellA w.heap.size [.int .i64 now], cellA (w.heap.size + 1) [.int .i64 (dueN now l)], cellA s [.pointer (some ⟨d, 0, none⟩), .int .i64 c]]]) hs [3, 0, 1, 2] rfl
    have h2 := St.unsep 0 h0 rfl
    obtain ⟨z7, c7, f7⟩ := h2.box 1 rfl
    obtain ⟨z8, c8, f8⟩ := h2.box 2 rfl
    have hR2 := hR.out
    unfold dueM at hR2
    have h3 : St w S w2 [siftA s c l, objA D (.deferred (some []))] := (sift_shut (h2.arr [2, 5, 3, 0, 1, 4] rfl)).drops 2
    clear hs h0 h2 H3 hR
    generalize dueN now l = N at *
    by_cases hN : N = 0
    · rw [if_pos hN] at hR2
      have q1 : (N == 0) = true := by simpa using hN
      have q2 : decide (N = 0) = true := decide_eq_true hN
      have hD := h3.obj 1 rfl
      have HP := ((h3.putObj 1 rfl (.deferred none)).drop 0 rfl).row_nil (size := 2)
      replace hN := Lib.hid hN
      clear h3
      replace hD := Lib.hid hD; replace HP := Lib.hid HP; replace hR2 := Lib.hid hR2
      gi_wp2
      refine ⟨by simp, .inl ⟨_, _, rfl, run_takeDeferred hD.out, ?_⟩⟩
      refine ⟨.slice none 0 0, by simp [results, Try.results23, go_sem], _, rfl, ?_⟩
      rw [hR2.out]
      exact HP.out
    · rw [if_neg hN] at hR2
      have q1 : (N == 0) = false := by simpa using hN
      have q2 : decide (N = 0) = false := decide_eq_false hN
      obtain ⟨S4, hS4, _, back⟩ := h3.at 0 rfl
      have P := upTo_any s c l N hl hc0 hc1 hb.out w2 S4 hS4
      replace hN := Lib.hid hN
      clear h3 hS4
      replace P := Lib.hid P; replace back := Lib.hid back; replace hR2 := Lib.hid hR2
      gi_wp2
      refine ⟨trivial, (callsIn_wide.2 P.out).mono ?_⟩
      rintro e w4 ⟨v', rfl, H5⟩
      have H6 := back.out _ _ H5
      clear P back H5
      have hD := H6.obj 2 rfl
      have HP := ((H6.putObj 2 rfl (.deferred none)).drop 0 rfl)
      simp only []
      replace hD := Lib.hid hD; replace HP := Lib.hid HP; replace H6 := Lib.hid H6
      gi_wp2
      refine ⟨by simp, .inl ⟨_, _, rfl, run_takeDeferred hD.out, ?_⟩⟩
      refine ⟨v', by simp [results, Try.results23, go_sem], _, rfl, ?_⟩
      rw [hR2.out]
      exact HP.out
end Go.Proofs.Ytiaefmmcakagpaa.Sift

/- The walk of sift's Latest; those of Put where none is. -/
namespace Go.Proofs.Ytiaefmmcakagpaa.Sift
set_option linter.unusedSimpArgs false
set_option linter.unusedVariables false
open Go Go.RowKit Go.Shelf Go.Proofs.Ytiaefmmcakagpaa
open Go.Proofs.Ytiaefmmcakagpaa.DockWait (El enc val encs dockA dock_open dock_parts dock_shut placed headV)
attribute [local irreducible] Calls
attribute [local go_sem] Oper.semAt_some

def lateN (a : Int) (l : List El) : Int := l.foldl (fun a x => max a x.2.2) a
def lateM (l : List El) : Int × Bool := if l = [] then (0, false) else (lateN (headV l).2.2 l, true)
theorem lateN_snoc (a : Int) (l : List El) (x : El) : lateN a (l ++ [x]) = max (lateN a l) x.2.2 := by simp [lateN]
def lateI (b s d : Nat) (c a : Int) (pre : List El) : List Asn := [sepA [cellA b [.int .i64 (lateN a pre)], cellA s [.pointer (some ⟨d, 0, none⟩), .int .i64 c]]]
theorem latest_none (w : World) : Calls Try.prog 29 #[.pointer none] w (Ret w (.tuple #[.int .i64 0, .bool false])) := by
  have P := len_none w
  replace P := Lib.hid P
  refine callsIn_wide.1 (callsIn_of_wp_marks (n := 10) Try.func29 rfl trivial ?_ rfl)
  simp only [Try.ntmps29, List.size_toArray, List.length_cons, List.length_nil, Nat.reduceAdd, Nat.reduceSub, Array.replicate_succ, Array.replicate_zero, List.push_toArray, List.append_toArray, List.nil_append, List.cons_append]
  gi_wp2
  refine ⟨trivial, (callsIn_wide.2 P.out).mono ?_⟩
  rintro e w1 ⟨rfl, hb1⟩
  simp only []
  gi_wp2
  exact ⟨.tuple #[.int .i64 0, .bool false], by simp [results, Try.results29, go_sem], rfl, hb1⟩
set_option maxRecDepth 100000 in
set_option maxHeartbeats 1000000 in
theorem latest_any (s : Nat) (c : Int) (l : List El) (hl : l.length ≤ 100000) (w : World) (S : Nat → Prop) (h : (siftA s c l).holds w S) :
    Calls Try.prog 29 #[.pointer (some ⟨s, 0, none⟩)] w (Fin w S (.tuple #[.int .i64 (lateM l).1, .bool (lateM l).2]) [siftA s c l]) := by
  obtain ⟨R, hR⟩ : ∃ R, R = lateM l := ⟨_, rfl⟩
  rw [← hR]
  have P := len_any s c l w S h
  have H0 : St w S w [siftA s c l] := St.start (Sep.one h)
  unfold lateM at hR
  clear h
  by_cases he : l = []
  · rw [if_pos he] at hR
    subst hR
    have q1 : ((l.length : Int) == 0) = true := by simp [he]
    have q2 : decide ((l.length : Int) = 0) = true := decide_eq_true (by simp [he])
    replace he := Lib.hid he
    replace P := Lib.hid P; replace H0 := Lib.hid H0
    refine callsIn_wide.1 (callsIn_of_wp_marks (n := 10) Try.func29 rfl trivial ?_ rfl)
    simp only [Try.ntmps29, List.size_toArray, List.length_cons, List.length_nil, Nat.reduceAdd, Nat.reduceSub, Array.replicate_succ, Array.replicate_zero, List.push_toArray, List.append_toArray, List.nil_append, List.cons_append]
    gi_wp2
    refine ⟨trivial, (callsIn_wide.2 P.out).mono ?_⟩
    rintro e w1 ⟨rfl, hb1⟩
    simp only []
    gi_wp2
    exact ⟨.tuple #[.int .i64 0, .bool false], by simp [results, Try.results29, go_sem], rfl, H0.out.thru hb1⟩
  · rw [if_neg he] at hR
    have hpos : 0 < l.length := List.length_pos_iff.2 he
    have q1 : ((l.length : Int) == 0) = false := by simp; omega
    have q2 : decide ((l.length : Int) = 0) = false := decide_eq_false (by omega)
    replace he := Lib.hid he
    replace P := Lib.hid P; replace H0 := Lib.hid H0; replace hR := Lib.hid hR
    refine callsIn_wide.1 (callsIn_of_wp_marks (n := 10) Try.func29 rfl trivial ?_ rfl)
    simp only [Try.ntmps29, List.size_toArray, List.length_cons, List.length_nil, Nat.reduceAdd, Nat.reduceSub, Array.replicate_succ, Array.replicate_zero, List.push_toArray, List.append_toArray, List.nil_append, List.cons_append]
    gi_wp2
    refine ⟨trivial, (callsIn_wide.2 P.out).mono ?_⟩
    rintro e w1 ⟨rfl, hb1⟩
    obtain ⟨d, H1⟩ := sift_parts (H0.out.thru hb1)
    obtain ⟨z1, k1, f1⟩ := H1.box 0 rfl
    obtain ⟨SD, hSD⟩ := H1.held 1 rfl
    have P2 := DockWait.first_any d 33 l w1 SD hSD
    obtain ⟨y, hy⟩ : ∃ y, y = headV l := ⟨_, rfl⟩
    rw [← hy] at P2 hR
    obtain ⟨y1, y2, y3⟩ := y
    simp only [val] at P2
    clear P H0 hSD
    simp only []
    replace P2 := Lib.hid P2; replace H1 := Lib.hid H1; replace hy := Lib.hid hy
    gi_wp2
    refine ⟨trivial, (callsIn_wide.2 P2.out).mono ?_⟩
    rintro e w2 ⟨rfl, hb2⟩
    have H2 := ((H1.out.thru hb2).alloc [.int .i64 y1, .string y2, .int .i64 y3] 98)
    obtain ⟨z2, k2, f2⟩ := H2.box 0 rfl
    have H3 := H2.alloc [.int .i64 y3] 3
    simp only [World.size_alloc] at H3
    obtain ⟨z3, k3, f3⟩ := H3.box 2 rfl
    clear P2 H1 H2 hb1 z1 k1 f1
    simp only []
    replace H3 := Lib.hid H3
    gi_wp2
    refine ⟨trivial, (callsIn_wide.2 (DockWait.all_new d _)).mono ?_⟩
    rintro e w3 ⟨b1, rfl, HA⟩
    simp only []
    have H4 : St w S w3 [cellA b1 [.pointer (some ⟨d, 0, none⟩)], cellA (w2.heap.size + 1) [.int .i64 y3], cellA w2.heap.size [.int .i64 y1, .string y2, .int .i64 y3], cellA s [.pointer (some ⟨d, 0, none⟩), .int .i64 c], dockA d 33 l] := (H3.out.add HA)
    have H5 : St w S w3 ([cellA b1 [.pointer (some ⟨d, 0, none⟩)], dockA d 33 l] ++ lateI (w2.heap.size + 1) s d c y3 []) := (St.join [_, _] [_, _] ((H4.drop 2 rfl).arr [1, 2, 0, 3] rfl)).arr [1, 2, 0] rfl
    clear H3 H4 HA
    gi_wp2
    refine wpIn_range_st2 rfl (by decide) (gf := 100) (lb := #[.pointer (some ⟨b1, 0, none⟩)]) rfl trivial (enters_of Try.func100 (by kernel_rfl) rfl)
      (DockWait.all_iter _ d b1 33 l hl w S) (fun _ => rfl) (lateI (w2.heap.size + 1) s d c y3) (fun _ _ => [andA False (sepA [])]) H5 ?round ?done ?stop
    case stop =>
      intro D c pre x suf w2 _ hs
      exact (hs.unand 3 rfl).1.elim
    case round =>
      intro L pre x suf w1 hx
      obtain ⟨x1, x2, x3⟩ := x
      unfold val
      gi_wp2
      refine ⟨cellA w1.heap.size [.int .i64 x1, .string x2, .int .i64 x3], fun l' h => h.alloc _ _, ?_⟩
      intro p w5 hs
      have h2 : St w S w5 (cellA (w2.heap.size + 1) [.int .i64 (lateN y3 pre)] :: cellA s [.pointer (some ⟨d, 0, none⟩), .int .i64 c] :: cellA w1.heap.size [.int .i64 x1, .string x2, .int .i64 x3] :: p) := St.unsep 0 (hs.perm (List.perm_append_comm (l₁ := _ :: p))) rfl
      obtain ⟨z0, c0, f0⟩ := h2.box 0 rfl
      obtain ⟨z3, c3, f3⟩ := h2.box 2 rfl
      clear hs H5
      have hsn := lateN_snoc y3 pre (x1, x2, x3)
      simp only [] at hsn
      have h4 := ((h2.set 0 rfl 0 (.int .i64 (max (lateN y3 pre) x3)) (by simp))).drop 2 rfl
      replace h2 := Lib.hid h2; replace hx := Lib.hid hx; replace h4 := Lib.hid h4; replace hsn := Lib.hid hsn
      gi_wp2
      refine (St.join [_, _] p (?_ : St w S _ (cellA (w2.heap.size + 1) [.int .i64 (lateN y3 (pre ++ [(x1, x2, x3)]))] :: cellA s [.pointer (some ⟨d, 0, none⟩), .int .i64 c] :: p))).perm (List.perm_append_comm (l₁ := [_]))
      rw [hsn.out]
      exact h4.out
    case done =>
      intro D w5 hs
      have h0 := St.arr (l := [objA D (.deferred (some [])), cellA b1 [.pointer (some ⟨d, 0, none⟩)], dockA d 33 l, sepA [cellA (w2.heap.size + 1) [.int .i64 (lateN y3 l)], cellA s [.pointer (some ⟨d, 0, none⟩), .int .i64 c]]]) hs [3, 0, 1, 2] rfl
      have h2 := St.unsep 0 h0 rfl
      obtain ⟨z7, c7, f7⟩ := h2.box 0 rfl
      have hD := h2.obj 2 rfl
      have HP := h2.putObj 2 rfl (.deferred none)
      have HF : St w S _ [siftA s c l] := (sift_shut (HP.arrN [2, 4, 0, 1, 3] rfl)).drops 1
      clear hs h0 h2 H5 HP
      replace hD := Lib.hid hD; replace HF := Lib.hid HF
      gi_wp2
      refine ⟨by simp, .inl ⟨_, _, rfl, run_takeDeferred hD.out, ?_⟩⟩
      exact ⟨.tuple #[.int .i64 (lateN y3 l), .bool true], by simp [results, Try.results29, go_sem], by rw [hR.out], HF.out⟩
end Go.Proofs.Ytiaefmmcakagpaa.Sift

/- The plain laws of sift: what is released, what goes on waiting. -/
namespace Go.Proofs.Ytiaefmmcakagpaa.Sift
set_option linter.unusedSimpArgs false
set_option linter.unusedVariables false
open Go.Proofs.Ytiaefmmcakagpaa.DockWait (El placed headV)

/-- Rising by numbers. -/
def Up (l : List El) : Prop := l.Pairwise fun a b => a.1 < b.1
/-- As a sift keeps things: the cursor and what waits. -/
structure Ok (c : Int) (l : List El) : Prop where
  c0 : 0 ≤ c
  c1 : c ≤ top
  mem : ∀ x ∈ l, c < x.1 ∧ x.1 ≤ top
  up : Up l
theorem Ok.pos {c : Int} {l : List El} (h : Ok c l) : ∀ x ∈ l, 0 < x.1 ∧ x.1 ≤ top := fun x hx => ⟨by have := (h.mem x hx).1; have := h.c0; omega, (h.mem x hx).2⟩
theorem lastN_append (c : Int) (a b : List El) : lastN c (a ++ b) = lastN (lastN c a) b := by simp [lastN, List.foldl_append]
/-- What a release comes to: the first k go. -/
structure Rel (c : Int) (l : List El) (r : List Dg × Int × List El) (k : Nat) : Prop where
  le : k ≤ l.length
  out : r.1 = (l.take k).map dg
  cur : r.2.1 = lastN c (l.take k)
  rest : r.2.2 = l.drop k
theorem Rel.zero (c : Int) (l : List El) : Rel c l ([], c, l) 0 := ⟨Nat.zero_le _, by simp, by simp [lastN], by simp⟩
theorem run_rel : ∀ (l : List El) (c : Int), ∃ k, Rel c l (runM l c) k
  | [], c => ⟨0, Rel.zero c []⟩
  | x :: l, c => by
    unfold runM
    split
    · obtain ⟨k, h⟩ := run_rel l x.1
      exact ⟨k + 1, by have := h.le; simp; omega, by simp [h.out, dg], by simp [h.cur, lastN], by simp [h.rest]⟩
    · exact ⟨0, Rel.zero c _⟩
theorem filter_up (n : Int) : ∀ (l : List El), Up l → ∃ k, k ≤ l.length ∧ l.filter (fun x => decide (x.1 ≤ n)) = l.take k ∧ l.filter (fun x => !decide (x.1 ≤ n)) = l.drop k
  | [], _ => ⟨0, by simp⟩
  | x :: l, h => by
    have h' := List.pairwise_cons.1 h
    by_cases hx : x.1 ≤ n
    · obtain ⟨k, h1, h2, h3⟩ := filter_up n l h'.2
      exact ⟨k + 1, by simp; omega, by simp [hx, h2], by simp [hx, h3]⟩
    · refine ⟨0, by simp, ?_, ?_⟩
      · rw [List.take_zero, List.filter_eq_nil_iff]
        intro y hy
        rcases List.mem_cons.1 hy with rfl | hy
        · simpa using hx
        · have := h'.1 y hy
          simp; omega
      · rw [List.drop_zero, List.filter_eq_self]
        intro y hy
        rcases List.mem_cons.1 hy with rfl | hy
        · simpa using hx
        · have := h'.1 y hy
          simp; omega
theorem take_more {α : Type} (l : List α) (i j : Nat) : l.take (i + j) = l.take i ++ (l.drop i).take j := by rw [List.take_add]
theorem up_rel (num c : Int) (l : List El) (h : Up l) : ∃ k, Rel c l (upM num c l) k := by
  obtain ⟨i, h1, h2, h3⟩ := filter_up num l h
  obtain ⟨j, hj⟩ := run_rel (l.drop i) (lastN c (l.take i))
  unfold upM
  rw [h2, h3]
  refine ⟨i + j, ?_, ?_, ?_, ?_⟩
  · have := hj.le; simp at this; omega
  · simp [hj.out, take_more]
  · simp [hj.cur, take_more, lastN_append]
  · simp [hj.rest, List.drop_drop]
theorem due_rel (c : Int) (l : List El) (now : Int) (h : Up l) : ∃ k, Rel c l (dueM c l now) k := by
  unfold dueM
  split
  · exact ⟨0, Rel.zero c l⟩
  · exact up_rel _ c l h
theorem lastN_mem : ∀ (l : List El) (c : Int), lastN c l = c ∨ ∃ x ∈ l, lastN c l = x.1
  | [], c => .inl rfl
  | y :: l, c => by
    rcases lastN_mem l y.1 with h | ⟨x, hx, h⟩
    · exact .inr ⟨y, by simp, by simpa [lastN] using h⟩
    · exact .inr ⟨x, List.mem_cons_of_mem _ hx, by simpa [lastN] using h⟩
theorem lastN_ge {c : Int} {l : List El} (h : ∀ x ∈ l, c < x.1) : c ≤ lastN c l := by
  rcases lastN_mem l c with e | ⟨x, hx, e⟩
  · omega
  · have := h x hx; omega
theorem Ok.rel {c : Int} {l : List El} {r : List Dg × Int × List El} {k : Nat} (h : Ok c l) (hr : Rel c l r k) : Ok r.2.1 r.2.2 := by
  have hu : Up (l.take k ++ l.drop k) := by rw [List.take_append_drop]; exact h.up
  have hu' := List.pairwise_append.1 hu
  rw [hr.cur, hr.rest]
  rcases lastN_mem (l.take k) c with e | ⟨x, hx, e⟩
  · rw [e]
    exact ⟨h.c0, h.c1, fun y hy => h.mem y (List.mem_of_mem_drop hy), hu'.2.1⟩
  · rw [e]
    have hm := h.mem x (List.mem_of_mem_take hx)
    refine ⟨by have := h.c0; omega, hm.2, fun y hy => ⟨hu'.2.2 x hx y hy, (h.mem y (List.mem_of_mem_drop hy)).2⟩, hu'.2.1⟩

/-- Laid in its place. -/
theorem lay_nil (d : Dg) (till : Int) : lay d till [] = [(d.1, d.2, till)] := rfl
theorem lay_cons (d : Dg) (till : Int) (y : El) (l : List El) : lay d till (y :: l) = if d.1 < y.1 then (d.1, d.2, till) :: y :: l else y :: lay d till l := by
  unfold lay placed
  rw [List.findIdx_cons]
  by_cases h : d.1 < y.1
  · simp [h]
  · simp [h]
theorem lay_perm (d : Dg) (till : Int) : ∀ l, (lay d till l).Perm ((d.1, d.2, till) :: l)
  | [] => .refl _
  | y :: l => by
    rw [lay_cons]
    split
    · exact .refl _
    · exact ((lay_perm d till l).cons y).trans (List.Perm.swap _ _ _)
theorem lay_up (d : Dg) (till : Int) : ∀ (l : List El), Up l → (∀ x ∈ l, x.1 ≠ d.1) → Up (lay d till l)
  | [], _, _ => by simp [lay_nil, Up]
  | y :: l, h, hn => by
    have h' := List.pairwise_cons.1 h
    have hy := hn y (by simp)
    rw [lay_cons]
    split
    · rename_i hd
      refine List.pairwise_cons.2 ⟨fun z hz => ?_, h⟩
      rcases List.mem_cons.1 hz with rfl | hz
      · exact hd
      · have := h'.1 z hz; show d.1 < z.1; omega
    · rename_i hd
      refine List.pairwise_cons.2 ⟨fun z hz => ?_, lay_up d till l h'.2 fun x hx => hn x (List.mem_cons_of_mem _ hx)⟩
      rcases lay_mem hz with rfl | hz
      · show y.1 < d.1; omega
      · exact h'.1 z hz
theorem any_ne {l : List El} {n : Int} (h : (l.any fun x => x.1 == n) = false) : ∀ x ∈ l, x.1 ≠ n := fun x hx e => by
  rw [List.any_eq_false] at h
  exact h x hx (by simpa using e)
theorem lay_ok {c : Int} {l : List El} (d : Dg) (till : Int) (h : Ok c l) (hf : (fitsM c l d.1).2 = true) : Ok c (lay d till l) := by
  obtain ⟨h1, h2, h3⟩ := fits_facts hf
  refine ⟨h.c0, h.c1, fun x hx => ?_, lay_up d till l h.up (any_ne h3)⟩
  rcases lay_mem hx with rfl | hx
  · exact ⟨h1, h2⟩
  · exact h.mem x hx
/-- The first of those laid is this one, if it is next. -/
theorem lay_next {c : Int} {l : List El} (d : Dg) (till : Int) (h : Ok c l) (hf : (fitsM c l d.1).2 = true) (hn : d.1 = c + 1) : lay d till l = (d.1, d.2, till) :: l := by
  obtain ⟨h1, h2, h3⟩ := fits_facts hf
  cases l with
  | nil => rfl
  | cons y l =>
    rw [lay_cons, if_pos]
    have := (h.mem y (by simp)).1
    have := any_ne h3 y (by simp)
    omega
theorem headV_mem {l : List El} (h : 0 < l.length) : headV l ∈ l := by
  cases l with
  | nil => simp at h
  | cons x l => simp [headV]
/-- Of those up to the first one at least one goes. -/
theorem up_first (c : Int) (l : List El) (h : Up l) (h0 : 0 < l.length) : ∃ k, 0 < k ∧ Rel c l (upM (headV l).1 c l) k := by
  obtain ⟨k, hk⟩ := up_rel (headV l).1 c l h
  refine ⟨k, ?_, hk⟩
  cases k with
  | succ k => omega
  | zero =>
    exfalso
    have h1 := hk.out
    cases l with
    | nil => simp at h0
    | cons x l => simp [upM, headV] at h1
/-- What Put comes to. -/
inductive PutCase (c : Int) (l : List El) (d : Dg) (till : Int) (r : (Int × List Dg) × Int × List El) : Prop
  | no (h : (fitsM c l d.1).2 = false) (hw : 2 ≤ r.1.1 ∧ r.1.1 ≤ 4) (e : r = ((r.1.1, []), c, l))
  | yes (k : Nat) (h : (fitsM c l d.1).2 = true) (hw : r.1.1 = if d.1 = c + 1 then 0 else 1) (hr : Rel c (lay d till l) (r.1.2, r.2) k) (hn : d.1 = c + 1 → r.1.2.head? = some d) (hs : r.2.2.length ≤ 32)
theorem fits_what {c n : Int} {l : List El} (h : (fitsM c l n).2 = false) : 2 ≤ (fitsM c l n).1 ∧ (fitsM c l n).1 ≤ 4 := by
  unfold fitsM at h ⊢
  split at h
  · rename_i h1; simp [h1]
  · rename_i h1
    split at h
    · rename_i h2; simp [h1, h2]
    · rename_i h2
      split at h
      · rename_i h3; simp [h1, h2, h3]
      · cases h
theorem put_case {c : Int} {l : List El} (d : Dg) (till : Int) (h : Ok c l) (hl : l.length ≤ 32) : PutCase c l d till (putM c l d till) := by
  unfold putM
  cases hf : (fitsM c l d.1).2 with
  | false =>
    have := fits_what hf
    exact .no hf (by simpa using this) (by simp)
  | true =>
    have hk := lay_ok d till h hf
    have hlen := lay_len d till l
    by_cases hn : d.1 = c + 1
    · rw [if_pos rfl, if_pos hn]
      obtain ⟨k, hr⟩ := run_rel (lay d till l) c
      have hne := lay_next d till h hf hn
      refine .yes k hf (by rw [if_pos hn]) hr (fun _ => ?_) ?_
      · rw [hne, runM, if_pos hn]
        rfl
      · have h1 : 0 < k := by
          cases k with
          | succ k => omega
          | zero =>
            exfalso
            have h1 := hr.out
            rw [hne, runM, if_pos hn] at h1
            simp at h1
        show (runM (lay d till l) c).2.2.length ≤ 32
        rw [hr.rest, List.length_drop]
        omega
    · rw [if_pos rfl, if_neg hn]
      by_cases h3 : 32 < (lay d till l).length
      · rw [if_pos h3]
        obtain ⟨k, h1, hr⟩ := up_first c (lay d till l) hk.up (by omega)
        refine .yes k hf (by rw [if_neg hn]) hr (fun e => absurd e hn) ?_
        show (upM _ c (lay d till l)).2.2.length ≤ 32
        rw [hr.rest, List.length_drop]
        omega
      · rw [if_neg h3]
        refine .yes 0 hf (by rw [if_neg hn]) (Rel.zero c _) (fun e => absurd e hn) ?_
        show (lay d till l).length ≤ 32
        omega
/-- Behind Due none waits whose time has come. -/
theorem dueN_pos {now : Int} : ∀ (l : List El), (∀ x ∈ l, 0 < x.1) → Up l → ∀ a, 0 ≤ a → (∀ x ∈ l, a < x.1) → ∀ x ∈ l, x.2.2 ≤ now → x.1 ≤ l.foldl (fun a x => if x.2.2 ≤ now then x.1 else a) a
  | [], _, _, _, _, _, _, hx, _ => by cases hx
  | y :: l, hp, hu, a, h0, ha, x, hx, hd => by
    have h' := List.pairwise_cons.1 hu
    have ge : ∀ (l : List El) (b : Int), Up l → (∀ x ∈ l, b < x.1) → b ≤ l.foldl (fun a x => if x.2.2 ≤ now then x.1 else a) b := by
      intro l
      induction l with
      | nil => intro b _ _; exact Int.le_refl _
      | cons z l ih =>
        intro b hu hb
        have h2 := List.pairwise_cons.1 hu
        simp only [List.foldl_cons]
        have hz := hb z (by simp)
        split
        · have := ih z.1 h2.2 h2.1; omega
        · exact ih b h2.2 fun x hx => hb x (List.mem_cons_of_mem _ hx)
    simp only [List.foldl_cons]
    rcases List.mem_cons.1 hx with rfl | hx
    · rw [if_pos hd]
      exact ge l _ h'.2 h'.1
    · split
      · exact dueN_pos l (fun x hx => hp x (List.mem_cons_of_mem _ hx)) h'.2 y.1 (by have := hp y (by simp); omega) h'.1 x hx hd
      · exact dueN_pos l (fun x hx => hp x (List.mem_cons_of_mem _ hx)) h'.2 a h0 (fun x hx => ha x (List.mem_cons_of_mem _ hx)) x hx hd
theorem dueN_zero {now : Int} : ∀ (l : List El) (a : Int), (∀ x ∈ l, ¬ x.2.2 ≤ now) → l.foldl (fun a x => if x.2.2 ≤ now then x.1 else a) a = a
  | [], _, _ => rfl
  | y :: l, a, h => by
    simp only [List.foldl_cons]
    rw [if_neg (h y (by simp))]
    exact dueN_zero l a fun x hx => h x (List.mem_cons_of_mem _ hx)
theorem due_rest {c now : Int} {l : List El} (h : Ok c l) : ∀ x ∈ (dueM c l now).2.2, ¬ x.2.2 ≤ now := by
  intro x hx hd
  have hpos : ∀ x ∈ l, 0 < x.1 := fun x hx => (h.pos x hx).1
  unfold dueM at hx
  split at hx
  · rename_i h0
    have hx' : x ∈ l := hx
    have := dueN_pos l hpos h.up 0 (Int.le_refl _) hpos x hx' hd
    have := hpos x hx'
    unfold dueN at h0
    omega
  · obtain ⟨j, hj⟩ := run_rel (l.filter fun x => !decide (x.1 ≤ dueN now l)) (lastN c (l.filter fun x => decide (x.1 ≤ dueN now l)))
    have hx1 : x ∈ (runM (l.filter fun x => !decide (x.1 ≤ dueN now l)) (lastN c (l.filter fun x => decide (x.1 ≤ dueN now l)))).2.2 := hx
    rw [hj.rest] at hx1
    have hx2 := List.mem_filter.1 (List.mem_of_mem_drop hx1)
    have := dueN_pos l hpos h.up 0 (Int.le_refl _) hpos x hx2.1 hd
    have h3 := hx2.2
    simp at h3
    unfold dueN at h3
    omega
theorem due_again {c now : Int} {l : List El} (h : Ok c l) : dueM (dueM c l now).2.1 (dueM c l now).2.2 now = ([], (dueM c l now).2.1, (dueM c l now).2.2) := by
  have h1 := due_rest (now := now) h
  have h2 : dueN now (dueM c l now).2.2 = 0 := dueN_zero _ 0 h1
  generalize (dueM c l now).2.2 = L at *
  unfold dueM
  rw [if_pos h2]
end Go.Proofs.Ytiaefmmcakagpaa.Sift

/- The walks of the sift's statements' own functions: Same, works, Great; what an operation is. -/
namespace Go.Proofs.Ytiaefmmcakagpaa.Sift
set_option linter.unusedSimpArgs false
set_option linter.unusedVariables false
open Go Go.RowKit Go.Shelf Go.Proofs.Ytiaefmmcakagpaa
open Go.Proofs.Ytiaefmmcakagpaa.DockWait (El enc val encs dockA dock_open dock_parts dock_shut placed headV)
attribute [local irreducible] Calls

def eqD (a : Int) (s : ByteArray) (b : Int) (t : ByteArray) : Bool := a == b && s.toList == t.toList
theorem dgs_at {w : World} {a : Option Addr} {l : List Dg} (h : Rd w a (dgs l)) {n : Nat} (hn : l.length = n) (h0 : 0 < n) :
    ∃ b off, a = some ⟨b, off, none⟩ ∧ b < w.heap.size ∧ ∀ i (hi : i < l.length), w.cell? ⟨b, off + i * 2, none⟩ = some (.int .i64 l[i].1) ∧ w.cell? ⟨b, off + i * 2 + 1, none⟩ = some (.string l[i].2) := by
  obtain ⟨b, off, e, hb, hc⟩ := Rd.rows DockDg.enc_len (by omega) h hn h0
  exact ⟨b, off, e, hb, fun i hi => ⟨hc i hi 0 _ rfl, hc i hi 1 _ rfl⟩⟩
theorem eql_dg (w : World) (a b : Int) (s t : ByteArray) : (binOp .eql 45 (.agg #[.int .i64 a, .string s]) (.agg #[.int .i64 b, .string t])).run Try.prog w = .ok (.bool (eqD a s b t)) w := by
  have h1 : Try.prog.stoodInHeld 45 = false := by kernel_rfl
  rw [run_eql_struct]
  simp [go_sem, h1, eqD]
  by_cases e1 : a = b <;> by_cases e2 : s.toList = t.toList <;> simp [e1, e2]
theorem neq_dg (w : World) (a b : Int) (s t : ByteArray) : (binOp .neq 45 (.agg #[.int .i64 a, .string s]) (.agg #[.int .i64 b, .string t])).run Try.prog w = .ok (.bool (!eqD a s b t)) w := by
  have h1 : Try.prog.stoodInHeld 45 = false := by kernel_rfl
  rw [run_neq_struct]
  simp [go_sem, h1, eqD]
  by_cases e1 : a = b <;> by_cases e2 : s.toList = t.toList <;> simp [e1, e2]
set_option maxHeartbeats 400000 in
theorem same_any (l : List Dg) (n : Nat) (hl : l.length = n) (hn : n ≤ maxLen) (a : Option Addr) (cap : Nat) (a' : Option Addr) (cap' : Nat) (w : World) (h : Rd w a (dgs l)) (g : Rd w a' (dgs l)) :
    Calls Try.prog 27 #[.slice a n cap, .slice a' n cap'] w (Ret w (.bool true)) := by
  unfold maxLen at hn
  replace h := Lib.hid h; replace g := Lib.hid g; replace hl := Lib.hid hl
  go_enter Try.func27, Try.ntmps27
  go_wp2_with fail
  go_loopg [5] n (fun g i wr => ∃ k : Nat, k ≤ n ∧ g = n - k ∧ i = .int .i64 k ∧ Below w.heap.size w wr)
  case atStart => exact ⟨0, by omega, by omega, rfl, (by repeat (first | with_reducible exact Below.refl _ _ | (with_reducible refine Below.al ?_) | (with_reducible refine Below.drew ?_) | (with_reducible refine Below.set ?_ (by first | (simp; done) | omega | (simp; omega))) | (with_reducible refine Below.thru ?_ (by assumption)) | (with_reducible refine Below.chg ?_ (by assumption) (by first | (simp; done) | omega | (simp; omega)))))⟩
  case round =>
    obtain ⟨k, hk, hg, rfl, hbw⟩ := hrel
    by_cases hlt : k < n
    · have hkl : k < l.length := by have := hl.out; omega
      obtain ⟨b, off, rfl, hb, hc⟩ := dgs_at (h.out.below hbw) hl.out (by omega)
      obtain ⟨b', off', rfl, hb', hc'⟩ := dgs_at (g.out.below hbw) hl.out (by omega)
      obtain ⟨e0, e1⟩ := hc k hkl
      obtain ⟨f0, f1⟩ := hc' k hkl
      clear hc hc'
      generalize l[k] = d at *
      obtain ⟨dn, ds⟩ := d
      simp only at e0 e1 f0 f1
      have ee : eqD dn ds dn ds = true := by simp [eqD]
      go_wp2_with fail
      refine wp_region_near (by kernel_rfl) (by kernel_rfl) ?_
      intro hs
      repeat (go_big_quiet_step (fail))
      refine wpQuiet_nil ?_
      clear hs
      intro w2 hb2
      go_wp2_with fail
      go_roundg (n - (k + 1))
      case measure => omega
      case rel => exact ⟨k + 1, by omega, rfl, by go_num, (by repeat (first | with_reducible exact Below.refl _ _ | (with_reducible refine Below.al ?_) | (with_reducible refine Below.drew ?_) | (with_reducible refine Below.set ?_ (by first | (simp; done) | omega | (simp; omega))) | (with_reducible refine Below.thru ?_ (by assumption)) | (with_reducible refine Below.chg ?_ (by assumption) (by first | (simp; done) | omega | (simp; omega)))))⟩
    · go_wp2_with fail
      go_ret
      exact Ret.mk rfl (by repeat (first | with_reducible exact Below.refl _ _ | (with_reducible refine Below.al ?_) | (with_reducible refine Below.drew ?_) | (with_reducible refine Below.set ?_ (by first | (simp; done) | omega | (simp; omega))) | (with_reducible refine Below.thru ?_ (by assumption)) | (with_reducible refine Below.chg ?_ (by assumption) (by first | (simp; done) | omega | (simp; omega)))))

structure Op where
  kind : Int
  time : Int
  num : Int
  dat : ByteArray
def Op.d (o : Op) : Dg := (o.num, o.dat)
def encOp (o : Op) : List Value := [.int .i64 o.kind, .int .i64 o.time, .int .i64 o.num, .string o.dat]
theorem ops_in {w : World} {a : Option Addr} {len cap : Nat} (h : Fits w (.slice 4 (.cons 1 (.int .i64) (.cons 1 (.int .i64) (.cons 2 (.cons 1 (.int .i64) (.cons 1 .str .nil)) .nil)))) [.slice a len cap]) :
    len ≤ maxLen ∧ (a = none → len = 0) ∧ ∃ l : List Op, l.length = len ∧ (∀ x ∈ l, isI64 x.time ∧ isI64 x.num ∧ x.dat.size ≤ maxLen) ∧ Rd w a (l.flatMap encOp) :=
  rows_in (size := 4) encOp (by omega) (fun _ => rfl) (fun cs hf hlen => by
    obtain ⟨v, vs, rfl, f0, r0⟩ := fits_cons1 hf
    obtain ⟨n, rfl, wn⟩ := fits_int f0
    obtain ⟨v', vs', rfl, f1, r1⟩ := fits_cons1 r0
    obtain ⟨t, rfl, wt⟩ := fits_int f1
    obtain ⟨h2, f2, r2⟩ := r1
    have hl2 : vs'.length = 2 := by simpa using hlen
    rw [List.take_of_length_le (by omega)] at f2
    obtain ⟨_, _, rfl, g0, s0⟩ := fits_cons1 f2
    obtain ⟨_, _, rfl, g1, s1⟩ := fits_cons1 s0
    obtain ⟨m, rfl, wm⟩ := fits_int g0
    obtain ⟨s, rfl, ws⟩ := fits_str g1
    obtain rfl : _ = [] := s1
    exact ⟨⟨n, t, m, s⟩, rfl, bounds_i64 wt, bounds_i64 wm, ws⟩) h
theorem ops_at {w : World} {a : Option Addr} {l : List Op} (h : Rd w a (l.flatMap encOp)) {n : Nat} (hn : l.length = n) (h0 : 0 < n) :
    ∃ b off, a = some ⟨b, off, none⟩ ∧ b < w.heap.size ∧ ∀ i (hi : i < l.length), w.cell? ⟨b, off + i * 4, none⟩ = some (.int .i64 l[i].kind) ∧ w.cell? ⟨b, off + i * 4 + 1, none⟩ = some (.int .i64 l[i].time) ∧ w.cell? ⟨b, off + i * 4 + 2, none⟩ = some (.int .i64 l[i].num) ∧ w.cell? ⟨b, off + i * 4 + 3, none⟩ = some (.string l[i].dat) := by
  obtain ⟨b, off, e, hb, hc⟩ := Rd.rows (enc := encOp) (size := 4) (fun _ => rfl) (by omega) h hn h0
  exact ⟨b, off, e, hb, fun i hi => ⟨hc i hi 0 _ rfl, hc i hi 1 _ rfl, hc i hi 2 _ rfl, hc i hi 3 _ rfl⟩⟩

set_option maxHeartbeats 400000 in
theorem great_any (l : List Op) (n : Nat) (hl : l.length = n) (hn : n ≤ maxLen) (a : Option Addr) (cap : Nat) (w : World) (h : Rd w a (l.flatMap encOp)) (hs : ∀ x ∈ l, x.dat.size ≤ maxLen) :
    Calls Try.prog 20 #[.slice a n cap] w (fun e w' => ∃ b, e = .returned (.bool b) ∧ Below w.heap.size w w' ∧ (b = false → n ≤ 150)) := by
  unfold maxLen at hn hs
  replace h := Lib.hid h; replace hl := Lib.hid hl; replace hs := Lib.hid hs
  go_enter Try.func20, Try.ntmps20
  go_wp2_with fail
  go_loopg [3] n (fun g i wr => ∃ k : Nat, k ≤ n ∧ g = n - k ∧ i = .int .i64 k ∧ k ≤ 150 ∧ Below w.heap.size w wr)
  case atStart => exact ⟨0, by omega, by omega, rfl, by omega, (by repeat (first | with_reducible exact Below.refl _ _ | (with_reducible refine Below.al ?_) | (with_reducible refine Below.drew ?_) | (with_reducible refine Below.set ?_ (by first | (simp; done) | omega | (simp; omega))) | (with_reducible refine Below.thru ?_ (by assumption)) | (with_reducible refine Below.chg ?_ (by assumption) (by first | (simp; done) | omega | (simp; omega)))))⟩
  case round =>
    obtain ⟨k, hk, hg, rfl, hkk, hbw⟩ := hrel
    by_cases hlt : k < n
    · have hkl : k < l.length := by have := hl.out; omega
      obtain ⟨b, off, rfl, hb, hc⟩ := ops_at (h.out.below hbw) hl.out (by omega)
      obtain ⟨_, _, _, e3⟩ := hc k hkl
      have hsz := hs.out l[k] (List.getElem_mem hkl)
      clear hc
      generalize l[k] = o at *
      obtain ⟨o1, o2, o3, o4⟩ := o
      simp only at e3 hsz
      by_cases hq : k = 150
      · have q1 : decide ((150 : Int) ≤ (k : Int)) = true := decide_eq_true (by omega)
        go_wp2_with fail
        go_ret
        exact .inr ⟨rfl, (by repeat (first | with_reducible exact Below.refl _ _ | (with_reducible refine Below.al ?_) | (with_reducible refine Below.drew ?_) | (with_reducible refine Below.set ?_ (by first | (simp; done) | omega | (simp; omega))) | (with_reducible refine Below.thru ?_ (by assumption)) | (with_reducible refine Below.chg ?_ (by assumption) (by first | (simp; done) | omega | (simp; omega)))))⟩
      · have q1 : decide ((150 : Int) ≤ (k : Int)) = false := decide_eq_false (by omega)
        by_cases hq2 : 1000 < o4.size
        · have q2 : decide ((1000 : Int) < (o4.size : Int)) = true := decide_eq_true (by omega)
          go_wp2_with fail
          go_ret
          exact .inr ⟨rfl, (by repeat (first | with_reducible exact Below.refl _ _ | (with_reducible refine Below.al ?_) | (with_reducible refine Below.drew ?_) | (with_reducible refine Below.set ?_ (by first | (simp; done) | omega | (simp; omega))) | (with_reducible refine Below.thru ?_ (by assumption)) | (with_reducible refine Below.chg ?_ (by assumption) (by first | (simp; done) | omega | (simp; omega)))))⟩
        · have q2 : decide ((1000 : Int) < (o4.size : Int)) = false := decide_eq_false (by omega)
          go_wp2_with fail
          go_roundg (n - (k + 1))
          case measure => omega
          case rel => exact ⟨k + 1, by omega, rfl, by go_num, by omega, (by repeat (first | with_reducible exact Below.refl _ _ | (with_reducible refine Below.al ?_) | (with_reducible refine Below.drew ?_) | (with_reducible refine Below.set ?_ (by first | (simp; done) | omega | (simp; omega))) | (with_reducible refine Below.thru ?_ (by assumption)) | (with_reducible refine Below.chg ?_ (by assumption) (by first | (simp; done) | omega | (simp; omega)))))⟩
    · go_wp2_with fail
      go_ret
      exact ⟨false, rfl, (by repeat (first | with_reducible exact Below.refl _ _ | (with_reducible refine Below.al ?_) | (with_reducible refine Below.drew ?_) | (with_reducible refine Below.set ?_ (by first | (simp; done) | omega | (simp; omega))) | (with_reducible refine Below.thru ?_ (by assumption)) | (with_reducible refine Below.chg ?_ (by assumption) (by first | (simp; done) | omega | (simp; omega))))), fun _ => by omega⟩

theorem put1 : putM 0 [] (2, ⟨#[98]⟩) 9 = ((1, []), 0, [(2, ⟨#[98]⟩, 9)]) := by rfl
theorem put2 : putM 0 [(2, ⟨#[98]⟩, 9)] (1, ⟨#[97]⟩) 9 = ((0, [(1, ⟨#[97]⟩), (2, ⟨#[98]⟩)]), 2, []) := by rfl
theorem ex_at {P : Go.Program} {f : FuncId} {args : Array Value} {W w : World} {S0 : Nat → Prop} {l : List Asn} {p : Asn} {F : Value → Value} {L : Value → List Asn} (k : Nat) (H : St W S0 w l) (hk : l[k]? = some p)
    (h : ∀ S, p.holds w S → Calls P f args w (fun e w' => ∃ v', e = .returned (F v') ∧ St w S w' (L v'))) :
    Calls P f args w (fun e w' => ∃ v', e = .returned (F v') ∧ St W S0 w' (L v' ++ l.eraseIdx k)) := by
  obtain ⟨S1, a, _, c⟩ := H.at k hk
  exact (h S1 a).mono fun _ w' ⟨v', he, hst⟩ => ⟨v', he, c w' _ hst⟩
set_option maxRecDepth 100000 in
set_option maxHeartbeats 1000000 in
theorem works_law (w : World) : Calls Try.prog 19 #[] w (Ret w (.bool true)) := by
  go_enter Try.func19, Try.ntmps19
  go_wp2_with fail
  refine Calls.mono (new_any w) ?_
  rintro e w1 ⟨s, rfl, H1⟩
  have P1 := ex_at 0 H1 rfl fun S h => put_any s 0 [] (2, ⟨#[98]⟩) 9 (by simp) (by omega) (by unfold top; omega) (by simp) _ S h
  rw [put1] at P1
  clear H1
  replace P1 := Lib.hid P1
  go_wp2_with fail
  refine Calls.mono P1.out ?_
  rintro e w2 ⟨m1, rfl, H2⟩
  clear P1
  obtain ⟨a2, c2, rfl, _⟩ := St.slice (by omega) 0 H2 rfl
  have P2 := ex_at 1 H2 rfl fun S h => put_any s 0 [(2, ⟨#[98]⟩, 9)] (1, ⟨#[97]⟩) 9 (by simp) (by omega) (by unfold top; omega) (by simp [top]) _ S h
  rw [put2] at P2
  clear H2
  replace P2 := Lib.hid P2
  go_wp2_with fail
  refine Calls.mono P2.out ?_
  rintro e w3 ⟨m2, rfl, H3⟩
  clear P2
  obtain ⟨a3, c3, rfl, _⟩ := St.slice (by omega) 0 H3 rfl
  have hR := St.rd (by omega) 0 H3 rfl
  have H4 := H3.alloc [.int .i64 1, .string ⟨#[97]⟩, .int .i64 2, .string ⟨#[98]⟩] 45
  have hR4 := St.rd (by omega) 1 H4 rfl
  have P3 := same_any [(1, ⟨#[97]⟩), (2, ⟨#[98]⟩)] 2 rfl (by unfold maxLen; omega) a3 c3 (some ⟨w3.heap.size, 0, none⟩) 2 _ hR4 (H4.box 0 rfl).rd
  clear H3 hR hR4
  replace H4 := Lib.hid H4; replace P3 := Lib.hid P3
  go_wp2_with fail
  refine Calls.mono P3.out ?_
  rintro e w4 ⟨rfl, hb4⟩
  have H5 := H4.out.thru hb4
  obtain ⟨S6, hS6⟩ := H5.held 2 rfl
  have P5 := cursor_any s 2 [] _ S6 hS6
  clear P3 H4 hS6
  replace P5 := Lib.hid P5; replace H5 := Lib.hid H5
  go_wp2_with fail
  refine Calls.mono P5.out ?_
  rintro e w5 ⟨rfl, hb5⟩
  have H6 := H5.out.thru hb5
  clear P5 H5
  replace H6 := Lib.hid H6
  go_wp2_with fail
  go_ret
  exact H6.out.ret rfl
end Go.Proofs.Ytiaefmmcakagpaa.Sift

/- The walks of the sift's answer: least, release. -/
namespace Go.Proofs.Ytiaefmmcakagpaa.Sift
set_option linter.unusedSimpArgs false
set_option linter.unusedVariables false
open Go Go.RowKit Go.Shelf Go.Proofs.Ytiaefmmcakagpaa
open Go.Proofs.Ytiaefmmcakagpaa.DockWait (El enc val encs encs_len encs_one encs_take encs_drop enc_len placed headV)
attribute [local irreducible] Calls

theorem wt_info : (Try.prog.info? 109).map (fun i => (i.zero, i.size, i.bytes)) = some (some (.agg #[.int .i64 0, .string ByteArray.empty, .int .i64 0]), 3, 32) := by kernel_rfl
def refS (q : Nat) (c : Int) (L : List El) : Asn := exA fun v => sepA [cellA q [v, .int .i64 c], rowA 3 v L.length (encs L)]
theorem refS_parts {W w : World} {S : Nat → Prop} {q : Nat} {c : Int} {L : List El} {r : List Asn} (h : St W S w (refS q c L :: r)) :
    ∃ a cap, St W S w (cellA q [.slice a L.length cap, .int .i64 c] :: rowA 3 (.slice a L.length cap) L.length (encs L) :: r) := by
  obtain ⟨v, h1⟩ := St.unex 0 h rfl
  have h2 : St W S w (cellA q [v, .int .i64 c] :: rowA 3 v L.length (encs L) :: r) := St.unsep 0 h1 rfl
  obtain ⟨a, cap, rfl, _⟩ := St.slice (by omega) 1 h2 rfl
  exact ⟨a, cap, h2⟩
theorem refS_shut {W w : World} {S : Nat → Prop} {q n : Nat} {c : Int} {L : List El} {v : Value} {r : List Asn} (hn : L.length = n) (h : St W S w (cellA q [v, .int .i64 c] :: rowA 3 v n (encs L) :: r)) : St W S w (refS q c L :: r) := by
  subst hn
  exact St.ex (fun v => sepA [cellA q [v, .int .i64 c], rowA 3 v L.length (encs L)]) v (St.join [_, _] r h)
theorem wait_at {w : World} {a : Option Addr} {l : List El} (h : Rd w a (encs l)) {n : Nat} (hn : l.length = n) (h0 : 0 < n) :
    ∃ b off, a = some ⟨b, off, none⟩ ∧ b < w.heap.size ∧ ∀ i (hi : i < l.length), w.cell? ⟨b, off + i * 3, none⟩ = some (.int .i64 l[i].1) ∧ w.cell? ⟨b, off + i * 3 + 1, none⟩ = some (.string l[i].2.1) ∧ w.cell? ⟨b, off + i * 3 + 2, none⟩ = some (.int .i64 l[i].2.2) := by
  obtain ⟨b, off, e, hb, hc⟩ := Rd.rows enc_len (by omega) h hn h0
  exact ⟨b, off, e, hb, fun i hi => ⟨hc i hi 0 _ rfl, hc i hi 1 _ rfl, hc i hi 2 _ rfl⟩⟩

def IsLeast (L : List El) (i : Int) : Prop := (L = [] ∧ i = -1) ∨ ∃ k : Nat, ∃ hk : k < L.length, i = k ∧ ∀ m (hm : m < L.length), L[k].1 ≤ L[m].1
def BestAt (L : List El) (j : Nat) (i : Int) : Prop := (j = 0 ∧ i = -1) ∨ ∃ k : Nat, ∃ hk : k < L.length, k < j ∧ i = k ∧ ∀ m (hm : m < L.length), m < j → L[k].1 ≤ L[m].1
theorem BestAt.is {L : List El} {i : Int} (h : BestAt L L.length i) : IsLeast L i := by
  rcases h with ⟨h0, h⟩ | ⟨k, hk, _, h, h2⟩
  · exact .inl ⟨List.eq_nil_of_length_eq_zero h0, h⟩
  · exact .inr ⟨k, hk, h, fun m hm => h2 m hm hm⟩
set_option maxHeartbeats 400000 in
theorem least_any (q : Nat) (c : Int) (L : List El) (w : World) (S : Nat → Prop) (h : (refS q c L).holds w S) (hl : L.length ≤ 1000) :
    Calls Try.prog 74 #[.pointer (some ⟨q, 0, none⟩)] w (fun e w' => ∃ i : Int, e = .returned (.int .i64 i) ∧ Below w.heap.size w w' ∧ IsLeast L i) := by
  obtain ⟨ga, cap, H⟩ := refS_parts (St.start (Sep.one h))
  have B := H.box 0 rfl
  have R := St.rd (by omega) 1 H rfl
  clear h H
  obtain ⟨z, k0, f⟩ := id B
  replace R := Lib.hid R; replace B := Lib.hid B
  go_enter Try.func74, Try.ntmps74
  go_wp2_with fail
  go_loopg [3, 4] L.length (fun g v3 v4 wr => ∃ (j : Nat) (b : Int), j ≤ L.length ∧ g = L.length - j ∧ v3 = .int .i64 b ∧ v4 = .int .i64 j ∧ Below w.heap.size w wr ∧ Hid (BestAt L j b))
  case atStart => exact ⟨0, -1, by omega, by omega, rfl, rfl, Below.refl _ _, Lib.hid (.inl ⟨rfl, rfl⟩)⟩
  case round =>
    obtain ⟨j, b, hj, hg, rfl, rfl, hbw, hB⟩ := hrel
    obtain ⟨z1, k1, f1⟩ := Box.below B.out hbw
    clear z k0 f
    by_cases hlt : j < L.length
    · obtain ⟨bb, off, rfl, hb, hc⟩ := wait_at (R.out.below hbw) rfl (by omega)
      obtain ⟨e0, e1, e2⟩ := hc j hlt
      replace hg := Lib.hid hg
      rcases hB.out with ⟨h0, rfl⟩ | ⟨k, hk, hkj, rfl, hmin⟩
      · subst h0
        clear hc
        simp only [Nat.zero_mul, Nat.add_zero] at e0
        have hN : BestAt L 1 0 := .inr ⟨0, hlt, by omega, rfl, fun m hm hm1 => by
          have e : m = 0 := by omega
          subst e
          exact Int.le_refl _⟩
        go_wp2_with fail
        refine wp_region_near (by kernel_rfl) (by kernel_rfl) ?_
        intro hs
        repeat (go_big_quiet_step (fail))
        refine wpQuiet_nil ?_
        clear hs
        intro w5 hb5
        go_wp2_with fail
        go_roundg (L.length - (0 + 1))
        case measure => have := hg.out; omega
        case rel => exact ⟨1, 0, by omega, rfl, by go_num, by go_num, (by repeat (first | with_reducible exact Below.refl _ _ | (with_reducible refine Below.al ?_) | (with_reducible refine Below.drew ?_) | (with_reducible refine Below.set ?_ (by first | (simp; done) | omega | (simp; omega))) | (with_reducible refine Below.thru ?_ (by assumption)) | (with_reducible refine Below.chg ?_ (by assumption) (by first | (simp; done) | omega | (simp; omega))))), Lib.hid hN⟩
      · obtain ⟨d0, d1, d2⟩ := hc k hk
        have t0 : decide ((k : Int) < 0) = false := decide_eq_false (by omega)
        have t1 : (0 : Int) ≤ k ∧ (k : Int) < L.length := ⟨by omega, by omega⟩
        have t2 : (0 : Int) ≤ j ∧ (j : Int) < L.length := ⟨by omega, by omega⟩
        clear hc
        by_cases hq : L[j].1 < L[k].1
        · have q1 : decide (L[j].1 < L[k].1) = true := decide_eq_true hq
          have hN : BestAt L (j + 1) j := .inr ⟨j, hlt, by omega, rfl, fun m hm hm1 => by
            rcases Nat.lt_or_eq_of_le (Nat.le_of_lt_succ hm1) with h | h
            · have := hmin m hm h; omega
            · subst h; exact Int.le_refl _⟩
          clear hmin
          generalize L[j] = x at *
          generalize L[k] = y at *
          replace hN := Lib.hid hN; replace hB := Lib.hid hB; replace hq := Lib.hid hq
          go_wp2_with fail
          refine wp_region_near (by kernel_rfl) (by kernel_rfl) ?_
          intro hs
          repeat (go_big_quiet_step (fail))
          refine wpQuiet_nil ?_
          clear hs
          intro w5 hb5
          go_wp2_with fail
          go_roundg (L.length - (j + 1))
          case measure => have := hg.out; omega
          case rel => exact ⟨j + 1, j, by omega, rfl, rfl, by go_num, (by repeat (first | with_reducible exact Below.refl _ _ | (with_reducible refine Below.al ?_) | (with_reducible refine Below.drew ?_) | (with_reducible refine Below.set ?_ (by first | (simp; done) | omega | (simp; omega))) | (with_reducible refine Below.thru ?_ (by assumption)) | (with_reducible refine Below.chg ?_ (by assumption) (by first | (simp; done) | omega | (simp; omega))))), hN⟩
        · have q1 : decide (L[j].1 < L[k].1) = false := decide_eq_false hq
          have hN : BestAt L (j + 1) k := .inr ⟨k, hk, by omega, rfl, fun m hm hm1 => by
            rcases Nat.lt_or_eq_of_le (Nat.le_of_lt_succ hm1) with h | h
            · exact hmin m hm h
            · subst h; omega⟩
          clear hmin
          generalize L[j] = x at *
          generalize L[k] = y at *
          replace hN := Lib.hid hN; replace hB := Lib.hid hB; replace hq := Lib.hid hq
          go_wp2_with fail
          refine wp_region_near (by kernel_rfl) (by kernel_rfl) ?_
          intro hs
          repeat (go_big_quiet_step (fail))
          refine wpQuiet_nil ?_
          clear hs
          intro w5 hb5
          go_wp2_with fail
          go_roundg (L.length - (j + 1))
          case measure => have := hg.out; omega
          case rel => exact ⟨j + 1, k, by omega, rfl, rfl, by go_num, (by repeat (first | with_reducible exact Below.refl _ _ | (with_reducible refine Below.al ?_) | (with_reducible refine Below.drew ?_) | (with_reducible refine Below.set ?_ (by first | (simp; done) | omega | (simp; omega))) | (with_reducible refine Below.thru ?_ (by assumption)) | (with_reducible refine Below.chg ?_ (by assumption) (by first | (simp; done) | omega | (simp; omega))))), hN⟩
    · obtain rfl : j = L.length := by omega
      replace hg := Lib.hid hg
      go_wp2_with fail
      go_ret
      exact ⟨b, rfl, (by repeat (first | with_reducible exact Below.refl _ _ | (with_reducible refine Below.al ?_) | (with_reducible refine Below.drew ?_) | (with_reducible refine Below.set ?_ (by first | (simp; done) | omega | (simp; omega))) | (with_reducible refine Below.thru ?_ (by assumption)) | (with_reducible refine Below.chg ?_ (by assumption) (by first | (simp; done) | omega | (simp; omega))))), hB.out.is⟩

theorem rd_pre {w : World} {a : Option Addr} {xs : List Value} (h : Rd w a xs) (k : Nat) : Rd w a (xs.take k) := by
  rcases h with rfl | ⟨b, off, e, hb, hc⟩
  · exact .inl (by simp)
  · refine .inr ⟨b, off, e, hb, fun j u hu => hc j u ?_⟩
    rw [List.getElem?_take] at hu
    split at hu
    · exact hu
    · cases hu
theorem rd_post {w : World} {b off : Nat} {xs : List Value} (h : Rd w (some ⟨b, off, none⟩) xs) (k : Nat) : Rd w (some ⟨b, off + k, none⟩) (xs.drop k) := by
  rcases h with rfl | ⟨b', off', e, hb, hc⟩
  · exact .inl (by simp)
  · cases e
    refine .inr ⟨b, off + k, rfl, hb, fun j u hu => ?_⟩
    rw [List.getElem?_drop] at hu
    rw [Nat.add_assoc]
    exact hc _ u hu
theorem least_is {L l : List El} {x : El} {i : Int} (hp : L.Perm (x :: l)) (hu : Up (x :: l)) (h : IsLeast L i) : ∃ k, ∃ hk : k < L.length, i = k ∧ L[k] = x ∧ (L.take k ++ L.drop (k + 1)).Perm l := by
  rcases h with ⟨h, _⟩ | ⟨k, hk, hi, hm⟩
  · subst h
    exact absurd hp.length_eq (by simp)
  · have h1 : L[k] = x := by
      obtain ⟨m, hm1, hm2⟩ := List.getElem_of_mem (hp.mem_iff.2 (List.mem_cons_self (a := x) (l := l)))
      have h2 := hm m hm1
      rw [hm2] at h2
      rcases List.mem_cons.1 (hp.mem_iff.1 (List.getElem_mem hk)) with h3 | h3
      · exact h3
      · have := (List.pairwise_cons.1 hu).1 _ h3
        omega
    refine ⟨k, hk, hi, h1, ?_⟩
    have h2 : L.Perm (L[k] :: (L.take k ++ L.drop (k + 1))) := by
      conv => lhs; rw [← List.take_append_drop k L, List.drop_eq_getElem_cons hk]
      exact List.perm_middle
    rw [h1] at h2
    exact (h2.symm.trans hp).cons_inv
def refA (q : Nat) (c : Int) (l : List El) : Asn := exA fun L => andA (L.Perm l) (refS q c L)
theorem refA_parts {W w : World} {S : Nat → Prop} {q : Nat} {c : Int} {l : List El} {r : List Asn} (h : St W S w (refA q c l :: r)) : ∃ L, L.Perm l ∧ St W S w (refS q c L :: r) := by
  obtain ⟨L, h1⟩ := St.unex 0 h rfl
  obtain ⟨hp, h2⟩ := St.unand 0 h1 rfl
  exact ⟨L, hp, h2⟩
theorem refA_shut {W w : World} {S : Nat → Prop} {q : Nat} {c : Int} {l L : List El} {r : List Asn} (hp : L.Perm l) (h : St W S w (refS q c L :: r)) : St W S w (refA q c l :: r) :=
  St.ex (fun L => andA (L.Perm l) (refS q c L)) L (St.and (φ := L.Perm l) hp h)

set_option maxRecDepth 100000 in
set_option maxHeartbeats 1000000 in
theorem rrel_any (q : Nat) (c : Int) (x : El) (l : List El) (hu : Up (x :: l)) (hl : l.length ≤ 900) (w : World) (S : Nat → Prop) (h : (refA q c (x :: l)).holds w S) :
    Calls Try.prog 73 #[.pointer (some ⟨q, 0, none⟩)] w (Fin w S (.agg #[.int .i64 x.1, .string x.2.1]) [refA q x.1 l]) := by
  obtain ⟨i0, hi, hz, hz1, hz2⟩ := info_parts wt_info
  obtain ⟨L, hp, H0⟩ := refA_parts (St.start (Sep.one h))
  have hL : L.length = l.length + 1 := hp.length_eq
  have H1 := H0.alloc [.int .i64 0, .string ByteArray.empty] 45
  obtain ⟨S1, hS1⟩ := H1.held 1 rfl
  have P := least_any q c L _ S1 hS1 (by omega)
  clear h H0 hS1
  replace H1 := Lib.hid H1; replace P := Lib.hid P
  go_enter Try.func73, Try.ntmps73
  go_wp2_with fail
  refine Calls.mono P.out ?_
  rintro e w1 ⟨i, rfl, hb1, hi1⟩
  obtain ⟨k, hk, rfl, hx, hp2⟩ := least_is hp hu hi1
  obtain ⟨ga, cap, H2⟩ := refS_parts ((H1.out.thru hb1).front 1 rfl)
  have R := St.rd (by omega) 1 H2 rfl
  obtain ⟨z2, k2, f2⟩ := H2.box 0 rfl
  obtain ⟨z3, k3, f3⟩ := H2.box 2 rfl
  obtain ⟨b, off, rfl, hb, hc⟩ := wait_at R rfl (by omega)
  obtain ⟨e0, e1, e2⟩ := hc k hk
  rw [hx] at e0 e1 e2
  obtain ⟨x1, x2, x3⟩ := x
  simp only at e0 e1 e2
  clear hc hi1 P H1
  have H3 := H2.set 0 rfl 1 (.int .i64 x1) (by simp)
  have H4 := H3.alloc [.int .i64 x1, .string x2] 45
  simp only [World.size_setCell, List.set_cons_succ, List.set_cons_zero, List.eraseIdx_cons_zero] at H4
  obtain ⟨z4, k4, f4⟩ := H4.box 0 rfl
  obtain ⟨z5, k5, f5⟩ := H4.box 1 rfl
  have hq1 : (k : Int) < L.length := by omega
  have hcp : L.length ≤ cap := by
    rcases (H4.row 2 rfl).2 with ⟨e, _⟩ | ⟨_, _, _, e, _, _, hc, _⟩
    · cases e
    · cases e; exact hc
  replace H2 := Lib.hid H2; replace H3 := Lib.hid H3; replace H4 := Lib.hid H4; replace hx := Lib.hid hx; replace hp2 := Lib.hid hp2; replace hp := Lib.hid hp
  by_cases hcj : cap = k + 1
  · have hni : L.length = k + 1 := by omega
    subst hcj
    go_wp2_with fail
    refine wp_region_to 19 [0, 2, 3, 4, 5, 6, 7, 9, 10, 11, 12, 13, 14, 15] [true, false, true, true, true, true, true, true, false, true, true, true, true, true, true, true, false, false, false, false] 5 #[true, false, true, true, true, true, true, true, false, true, true, true, true, true, true, true, false, false, false, false] (by kernel_rfl) rfl (by kernel_rfl) (by kernel_rfl) rfl (by kernel_rfl) (by kernel_rfl) (by intro c a a' w e h; obtain ⟨t, d⟩ := a; obtain ⟨t', d'⟩ := a'; obtain rfl : d = d' := e; exact h) ?_
    intro hs
    simp only [pickB]
    repeat (go_big_quiet_step (fail))
    refine wpQuiet_nil ?_
    clear hs
    intro W hW
    have H5 := H4.out
    rw [← hW] at H5
    replace H5 := Lib.hid H5
    replace hW := Lib.hid hW
    have Z : St W none0 W.drew [] := (St.zero W).drew
    have R0 : Rd W (some ⟨b, off, none⟩) (encs L) := St.rd (by omega) 2 H5.out rfl
    have R1 : Rd W (some ⟨b, off, none⟩) (encs (L.take k)) := by rw [← encs_take]; exact rd_pre R0 _
    have R2 : Rd W (some ⟨b, off + (k + 1) * 3, none⟩) (encs (L.drop (k + 1))) := by rw [← encs_drop]; exact rd_post R0 _
    refine to_one (i := 1) (by kernel_rfl) fun K hK => ?_
    simp only [List.drop_succ_cons, List.drop_zero, List.take_succ_cons, List.take_zero]
    go_wp2_with fail
    have E1 := Z.alloc [] 109
    refine hK _ _ E1.below ?_
    clear hK K
    have E2 := E1.row_empty (size := 3) 0 rfl
    refine to_one (i := 8) (by kernel_rfl) fun K hK => ?_
    simp only [List.drop_succ_cons, List.drop_zero, List.take_succ_cons, List.take_zero]
    go_wp2_with (at_builtin; (refine wpList_appRd rfl (.tmp 21) (.tmp 27) _ rfl 109 i0 _ 3 32 Try.underlying53 hi hz hz1 hz2 rfl (by omega) 0 _ 0 [] rfl E2 rfl _ k _ (encs (L.take k)) rfl (by rw [encs_len]; simp; try omega) (R1.of_st E2) (fun e => by cases e) (encs_one _) (by omega) (by omega) ?_; intro wv5 w5 HA; (try simp only [Nat.zero_add, List.nil_append] at HA)))
    refine hK _ _ HA.below ?_
    clear hK K
    refine to_one (i := 16) (by kernel_rfl) fun K hK => ?_
    simp only [List.drop_succ_cons, List.drop_zero, List.take_succ_cons, List.take_zero]
    go_wp2_with (at_builtin; (refine wpList_appRd rfl (.tmp 28) (.tmp 35) _ rfl 109 i0 _ 3 32 Try.underlying53 hi hz hz1 hz2 rfl (by omega) 0 _ k (encs (L.take k)) rfl HA rfl _ _ _ (encs (L.drop (k + 1))) rfl (by rw [encs_len]; simp; try omega) (.inl (by rw [List.drop_of_length_le (by omega)]; rfl)) (fun e => by cases e) (encs_one _) (by omega) (by omega) ?_; intro wv5 w5 HA; (try simp only [Nat.zero_add, List.nil_append] at HA)))
    refine hK _ _ HA.below ?_
    clear hK K
    have hb5 := HA.below
    refine to_one (i := 17) (by kernel_rfl) fun K hK => ?_
    simp only [List.drop_succ_cons, List.drop_zero, List.take_succ_cons, List.take_zero]
    go_wp2_with fail
    refine hK _ _ hb5 ?_
    clear hK K
    refine to_one (i := 18) (by kernel_rfl) fun K hK => ?_
    simp only [List.drop_succ_cons, List.drop_zero, List.take_succ_cons, List.take_zero]
    go_wp2_with fail
    refine hK _ _ hb5 ?_
    clear hK K
    refine to_last (by kernel_rfl) (by kernel_rfl) fun K hK => ?_
    simp only [List.drop_succ_cons, List.drop_zero, List.take_succ_cons, List.take_zero]
    have HD := (HA.front 0 rfl).drops 1
    rw [show encs (L.take k) ++ encs (L.drop (k + 1)) = encs (L.take k ++ L.drop (k + 1)) from by simp [encs], show k + (l.length - k) = l.length from by omega] at HD
    obtain ⟨g5, c5, rfl, _⟩ := St.slice (by omega) 0 HD rfl
    have HF := H5.out.add HD
    clear HD HA H5
    obtain ⟨z6, k6, f6⟩ := HF.box 1 rfl
    obtain ⟨z7, k7, f7⟩ := HF.box 2 rfl
    obtain ⟨z8, k8, f8⟩ := HF.box 4 rfl
    have HG := HF.set 2 rfl 0 (.slice g5 l.length c5) (by simp)
    have HS := ((((HG.front 4 rfl).set 0 rfl 0 (.int .i64 x1) (by simp))).set 0 rfl 1 (.string x2) (by simp))
    have n1 := HF.ne_cells 2 4 rfl rfl (by decide)
    have n2 : ¬ w.heap.size = q := fun e => n1 e.symm
    have n3 := HF.ne_cells 1 2 rfl rfl (by decide)
    have n4 : ¬ q = w1.heap.size := fun e => n3 e.symm
    replace HF := Lib.hid HF; replace HG := Lib.hid HG; replace HS := Lib.hid HS
    go_wp2_with fail
    exact bodyPost_ret (v := .agg #[.int .i64 x1, .string x2]) (by simp [results, Try.results73, go_sem, k8, z8]; try rfl) rfl ⟨rfl, (refA_shut hp2.out (refS_shut hp2.out.length_eq (HS.out.arrN [1, 2, 0] rfl))).drops 1⟩
  · have hce : ¬ (cap : Int) = k + 1 := by omega
    go_wp2_with fail
    refine wp_region_to 19 [0, 2, 3, 4, 5, 6, 7, 9, 10, 11, 12, 13, 14, 15] [true, false, true, true, true, true, true, true, false, true, true, true, true, true, true, true, false, false, false, false] 5 #[true, false, true, true, true, true, true, true, false, true, true, true, true, true, true, true, false, false, false, false] (by kernel_rfl) rfl (by kernel_rfl) (by kernel_rfl) rfl (by kernel_rfl) (by kernel_rfl) (by intro c a a' w e h; obtain ⟨t, d⟩ := a; obtain ⟨t', d'⟩ := a'; obtain rfl : d = d' := e; exact h) ?_
    intro hs
    simp only [pickB]
    repeat (go_big_quiet_step (fail))
    refine wpQuiet_nil ?_
    clear hs
    intro W hW
    have H5 := H4.out
    rw [← hW] at H5
    replace H5 := Lib.hid H5
    replace hW := Lib.hid hW
    have Z : St W none0 W.drew [] := (St.zero W).drew
    have R0 : Rd W (some ⟨b, off, none⟩) (encs L) := St.rd (by omega) 2 H5.out rfl
    have R1 : Rd W (some ⟨b, off, none⟩) (encs (L.take k)) := by rw [← encs_take]; exact rd_pre R0 _
    have R2 : Rd W (some ⟨b, off + (k + 1) * 3, none⟩) (encs (L.drop (k + 1))) := by rw [← encs_drop]; exact rd_post R0 _
    refine to_one (i := 1) (by kernel_rfl) fun K hK => ?_
    simp only [List.drop_succ_cons, List.drop_zero, List.take_succ_cons, List.take_zero]
    go_wp2_with fail
    have E1 := Z.alloc [] 109
    refine hK _ _ E1.below ?_
    clear hK K
    have E2 := E1.row_empty (size := 3) 0 rfl
    refine to_one (i := 8) (by kernel_rfl) fun K hK => ?_
    simp only [List.drop_succ_cons, List.drop_zero, List.take_succ_cons, List.take_zero]
    go_wp2_with (at_builtin; (refine wpList_appRd rfl (.tmp 21) (.tmp 27) _ rfl 109 i0 _ 3 32 Try.underlying53 hi hz hz1 hz2 rfl (by omega) 0 _ 0 [] rfl E2 rfl _ k _ (encs (L.take k)) rfl (by rw [encs_len]; simp; try omega) (R1.of_st E2) (fun e => by cases e) (encs_one _) (by omega) (by omega) ?_; intro wv5 w5 HA; (try simp only [Nat.zero_add, List.nil_append] at HA)))
    refine hK _ _ HA.below ?_
    clear hK K
    refine to_one (i := 16) (by kernel_rfl) fun K hK => ?_
    simp only [List.drop_succ_cons, List.drop_zero, List.take_succ_cons, List.take_zero]
    go_wp2_with (at_builtin; (refine wpList_appRd rfl (.tmp 28) (.tmp 35) _ rfl 109 i0 _ 3 32 Try.underlying53 hi hz hz1 hz2 rfl (by omega) 0 _ k (encs (L.take k)) rfl HA rfl _ _ _ (encs (L.drop (k + 1))) rfl (by rw [encs_len]; simp; try omega) (R2.of_st HA) (fun e => by cases e) (encs_one _) (by omega) (by omega) ?_; intro wv5 w5 HA; (try simp only [Nat.zero_add, List.nil_append] at HA)))
    refine hK _ _ HA.below ?_
    clear hK K
    have hb5 := HA.below
    refine to_one (i := 17) (by kernel_rfl) fun K hK => ?_
    simp only [List.drop_succ_cons, List.drop_zero, List.take_succ_cons, List.take_zero]
    go_wp2_with fail
    refine hK _ _ hb5 ?_
    clear hK K
    refine to_one (i := 18) (by kernel_rfl) fun K hK => ?_
    simp only [List.drop_succ_cons, List.drop_zero, List.take_succ_cons, List.take_zero]
    go_wp2_with fail
    refine hK _ _ hb5 ?_
    clear hK K
    refine to_last (by kernel_rfl) (by kernel_rfl) fun K hK => ?_
    simp only [List.drop_succ_cons, List.drop_zero, List.take_succ_cons, List.take_zero]
    have HD := (HA.front 0 rfl).drops 1
    rw [show encs (L.take k) ++ encs (L.drop (k + 1)) = encs (L.take k ++ L.drop (k + 1)) from by simp [encs], show k + (l.length - k) = l.length from by omega] at HD
    obtain ⟨g5, c5, rfl, _⟩ := St.slice (by omega) 0 HD rfl
    have HF := H5.out.add HD
    clear HD HA H5
    obtain ⟨z6, k6, f6⟩ := HF.box 1 rfl
    obtain ⟨z7, k7, f7⟩ := HF.box 2 rfl
    obtain ⟨z8, k8, f8⟩ := HF.box 4 rfl
    have HG := HF.set 2 rfl 0 (.slice g5 l.length c5) (by simp)
    have HS := ((((HG.front 4 rfl).set 0 rfl 0 (.int .i64 x1) (by simp))).set 0 rfl 1 (.string x2) (by simp))
    have n1 := HF.ne_cells 2 4 rfl rfl (by decide)
    have n2 : ¬ w.heap.size = q := fun e => n1 e.symm
    have n3 := HF.ne_cells 1 2 rfl rfl (by decide)
    have n4 : ¬ q = w1.heap.size := fun e => n3 e.symm
    replace HF := Lib.hid HF; replace HG := Lib.hid HG; replace HS := Lib.hid HS
    go_wp2_with fail
    exact bodyPost_ret (v := .agg #[.int .i64 x1, .string x2]) (by simp [results, Try.results73, go_sem, k8, z8]; try rfl) rfl ⟨rfl, (refA_shut hp2.out (refS_shut hp2.out.length_eq (HS.out.arrN [1, 2, 0] rfl))).drops 1⟩
end Go.Proofs.Ytiaefmmcakagpaa.Sift

/- The walk of run of the sift's answer. -/
namespace Go.Proofs.Ytiaefmmcakagpaa.Sift
set_option linter.unusedSimpArgs false
set_option linter.unusedVariables false
open Go Go.RowKit Go.Shelf Go.Proofs.Ytiaefmmcakagpaa
open Go.Proofs.Ytiaefmmcakagpaa.DockWait (El enc val encs encs_len encs_one encs_take encs_drop enc_len placed headV)
attribute [local irreducible] Calls

set_option maxRecDepth 100000 in
set_option maxHeartbeats 1000000 in
theorem rrun_any (q : Nat) (c : Int) (l : List El) (v : Value) (xs : List Dg) (hu : Up l) (hl : l.length ≤ 900) (hxs : xs.length ≤ 900) (hc0 : 0 ≤ c) (hc1 : c ≤ top) (hb : ∀ x ∈ l, x.1 ≤ top) (w : World) (S : Nat → Prop) (h : (sepA [rowA 2 v xs.length (dgs xs), refA q c l]).holds w S) :
    Calls Try.prog 72 #[.pointer (some ⟨q, 0, none⟩), v] w (fun e w' => ∃ v', e = .returned v' ∧ St w S w' [rowA 2 v' (xs ++ (runM l c).1).length (dgs (xs ++ (runM l c).1)), refA q (runM l c).2.1 (runM l c).2.2]) := by
  obtain ⟨i0, hi, hz, hz1, hz2⟩ := info_parts DelDg.el_info
  obtain ⟨L, hp, H⟩ := refA_parts ((St.unsep 0 (St.start (Sep.one h)) rfl).arr [1, 0] rfl)
  obtain ⟨R, hR⟩ : ∃ R, R = runM l c := ⟨_, rfl⟩
  rw [← hR]
  obtain ⟨n, hn⟩ : ∃ n, n = l.length := ⟨_, rfl⟩
  unfold top at hc1 hb
  obtain ⟨S1, hS1⟩ := H.held 0 rfl
  have P := least_any q c L w S1 hS1 (by rw [hp.length_eq]; omega)
  clear h hS1
  replace H := Lib.hid H; replace hR := Lib.hid hR; replace hn := Lib.hid hn; replace hb := Lib.hid hb; replace P := Lib.hid P; replace hp := Lib.hid hp; replace hu := Lib.hid hu
  go_enter Try.func72, Try.ntmps72
  go_wp2_with fail
  refine Calls.mono P.out ?_
  rintro e w1 ⟨i, rfl, hb1, hi1⟩
  have H1 := H.out.thru hb1
  clear P H
  replace H1 := Lib.hid H1; replace hi1 := Lib.hid hi1
  go_wp2_with fail
  go_loopg [1, 5] n (fun g v1 v5 wr => ∃ (pre : List Dg) (l' : List El) (c' i : Int) (L : List El), l'.length = g ∧ g ≤ n ∧ 0 ≤ c' ∧ c' ≤ 140737488355327 ∧ v5 = .int .i64 i ∧ Hid (∀ x ∈ l', x.1 ≤ 140737488355327) ∧ Hid (R = (pre ++ (runM l' c').1, (runM l' c').2)) ∧ pre.length + l'.length = n ∧ Hid (Up l') ∧ Hid (L.Perm l') ∧ Hid (IsLeast L i) ∧
    St w S wr [refS q c' L, rowA 2 v1 (xs ++ pre).length (dgs (xs ++ pre))])
  case atStart =>
    refine ⟨[], l, c, i, L, hn.out.symm, Nat.le_refl _, hc0, hc1, rfl, hb, Lib.hid (by rw [hR.out, List.nil_append]), by simp [hn.out], hu, hp, hi1, ?_⟩
    rw [List.append_nil]
    exact H1.out
  case round =>
    obtain ⟨pre, l', c', i', L', hg, hgn, hc0', hc1', rfl, hb', hR', hpl, hu', hp', hi', hst⟩ := hrel
    clear H1 hc0 hc1 hp hi1 hu
    cases l' with
    | nil =>
      obtain rfl : L' = [] := hp'.out.eq_nil
      rcases hi'.out with ⟨_, rfl⟩ | ⟨k, hk, _⟩
      · replace hst := Lib.hid hst; replace hg := Lib.hid hg; replace hpl := Lib.hid hpl
        go_wp2_with fail
        refine wp_region_near (by kernel_rfl) (by kernel_rfl) ?_
        intro hs
        repeat (go_big_quiet_step (fail))
        refine wpQuiet_nil ?_
        clear hs
        intro w2 hb2
        have H2 := hst.out.thru hb2
        replace H2 := Lib.hid H2
        go_wp2_with fail
        go_ret
        have he := hR'.out
        simp only [runM, List.append_nil] at he
        rw [he]
        exact ⟨_, rfl, (refA_shut hp'.out H2.out).arr [1, 0] rfl⟩
      · simp at hk
    | cons x l' =>
      obtain ⟨k, hk, rfl, hx, hp2⟩ := least_is hp'.out hu'.out hi'.out
      have hL : L'.length = l'.length + 1 := hp'.out.length_eq
      obtain ⟨ga, cap, H2⟩ := refS_parts hst
      obtain ⟨z2, k2, f2⟩ := H2.box 0 rfl
      obtain ⟨b, off, rfl, hbb, hc⟩ := wait_at (St.rd (by omega) 1 H2 rfl) rfl (by omega)
      obtain ⟨e0, e1, e2⟩ := hc k hk
      rw [hx] at e0 e1 e2
      obtain ⟨x1, x2, x3⟩ := x
      simp only at e0 e1 e2
      have hx1 : x1 ≤ 140737488355327 := hb'.out (x1, x2, x3) (by simp)
      have hq1 : (k : Int) < L'.length := by omega
      have hw : IntKind.i64.wrap (c' + 1) = c' + 1 := by rw [IntKind.wrap_i64]; omega
      clear hc H2
      by_cases hq : x1 = c' + 1
      · have q1 : decide (x1 = c' + 1) = true := decide_eq_true hq
        have q2 : (x1 == c' + 1) = true := by simpa using hq
        have hR2 : R = ((pre ++ [(x1, x2)]) ++ (runM l' x1).1, (runM l' x1).2) := by rw [hR'.out, runM, if_pos hq]; simp
        replace hq := Lib.hid hq
        have hl9 : l'.length ≤ 900 := by
          have h1 := hn.out
          have h2 := hpl
          simp only [List.length_cons] at h2
          omega
        replace hst := Lib.hid hst; replace hg := Lib.hid hg; replace hpl := Lib.hid hpl; replace hR2 := Lib.hid hR2; replace hL := Lib.hid hL; replace hx := Lib.hid hx
        go_wp2_with fail
        refine wp_region_near (by kernel_rfl) (by kernel_rfl) ?_
        intro hs
        repeat (go_big_quiet_step (fail))
        refine wpQuiet_nil ?_
        clear hs
        intro w2 hb2
        have H3 := refA_shut hp'.out (hst.out.thru hb2)
        have P2 := Calls.st_at 0 H3 rfl fun S h => rrel_any q c' (x1, x2, x3) l' hu'.out hl9 _ S h
        clear hst hR' hi' hp' H3 k2 f2 z2 e0 e1 e2
        replace P2 := Lib.hid P2
        go_wp2_with fail
        refine Calls.mono P2.out ?_
        rintro e w3 ⟨rfl, H4⟩
        clear P2
        have hnl : n ≤ 900 := by rw [hn.out]; exact hl
        have hpl2 := hpl.out
        simp only [List.length_cons] at hpl2
        have hlen : (xs ++ pre).length ≤ 3000 := by rw [List.length_append]; omega
        replace H4 := Lib.hid H4; replace hp2 := Lib.hid hp2
        go_wp2_with (at_builtin; (refine wpList_appS rfl (.tmp 29) (.tmp 32) _ rfl 45 i0 _ 2 24 Try.underlying48 hi hz hz1 hz2 rfl (by omega) 1 _ (xs ++ pre).length (dgs (xs ++ pre)) rfl H4.out rfl 1 1 [.int .i64 x1, .string x2] rfl rfl (by simp [Value.oneCell']) (by omega) (by omega) ?_; intro v5 w5 H5; replace H5 := Lib.hid H5))
        obtain ⟨L2, hp3, H6⟩ := refA_parts (H5.out.front 1 rfl)
        have H7 : St w S w5 [refS q x1 L2, rowA 2 v5 ((xs ++ pre).length + 1) (dgs (xs ++ pre) ++ [Value.int IntKind.i64 x1, Value.string x2])] := H6
        obtain ⟨S1, hS1⟩ := H7.held 0 rfl
        have P3 := least_any q x1 L2 w5 S1 hS1 (by rw [hp3.length_eq]; omega)
        clear H4 H5 H6 hS1
        replace P3 := Lib.hid P3; replace H7 := Lib.hid H7; replace hp3 := Lib.hid hp3
        refine Calls.mono P3.out ?_
        rintro e w6 ⟨i2, rfl, hb6, hi2⟩
        have H8 := H7.out.thru hb6
        clear P3 H7
        replace H8 := Lib.hid H8; replace hi2 := Lib.hid hi2
        go_wp2_with fail
        go_roundg l'.length
        case measure => have := hg.out; simp only [List.length_cons] at this; omega
        case rel =>
          have hq' := hq.out
          refine ⟨pre ++ [(x1, x2)], l', x1, i2, L2, rfl, by omega, by omega, hx1, rfl, Lib.hid (fun x hx => hb'.out x (List.mem_cons_of_mem _ hx)), hR2, by rw [List.length_append]; simp only [List.length_cons, List.length_nil]; omega, Lib.hid (List.pairwise_cons.1 hu'.out).2, hp3, hi2, ?_⟩
          rw [← List.append_assoc, List.length_append, show dgs (xs ++ pre ++ [(x1, x2)]) = dgs (xs ++ pre) ++ [.int .i64 x1, .string x2] from (DockDg.encs_app _ _).symm]
          exact H8.out
      · have q1 : decide (x1 = c' + 1) = false := decide_eq_false hq
        have q2 : (x1 == c' + 1) = false := by simpa using hq
        have he : R = (pre, c', (x1, x2, x3) :: l') := by rw [hR'.out, runM, if_neg hq, List.append_nil]
        replace hq := Lib.hid hq
        replace hst := Lib.hid hst; replace hg := Lib.hid hg; replace hpl := Lib.hid hpl; replace he := Lib.hid he; replace hL := Lib.hid hL; replace hx := Lib.hid hx
        go_wp2_with fail
        refine wp_region_near (by kernel_rfl) (by kernel_rfl) ?_
        intro hs
        repeat (go_big_quiet_step (fail))
        refine wpQuiet_nil ?_
        clear hs
        intro w2 hb2
        have H3 := refA_shut hp'.out (hst.out.thru hb2)
        replace H3 := Lib.hid H3
        go_wp2_with fail
        go_ret
        rw [he.out]
        exact ⟨_, rfl, H3.out.arr [1, 0] rfl⟩
end Go.Proofs.Ytiaefmmcakagpaa.Sift

/- The walk of Put of the sift's answer. -/
namespace Go.Proofs.Ytiaefmmcakagpaa.Sift
set_option linter.unusedSimpArgs false
set_option linter.unusedVariables false
open Go Go.RowKit Go.Shelf Go.Proofs.Ytiaefmmcakagpaa
open Go.Proofs.Ytiaefmmcakagpaa.DockWait (El enc val encs encs_len encs_one encs_take encs_drop encs_app enc_len placed headV)
attribute [local irreducible] Calls

theorem perm_any {L l : List El} (hp : L.Perm l) (p : El → Bool) : L.any p = l.any p := by
  rw [Bool.eq_iff_iff, List.any_eq_true, List.any_eq_true]
  constructor <;> rintro ⟨x, hx, h⟩
  · exact ⟨x, hp.mem_iff.1 hx, h⟩
  · exact ⟨x, hp.mem_iff.2 hx, h⟩
theorem filter_gt : ∀ (l : List El) (n : Int), (∀ y ∈ l, n < y.1) → l.filter (fun y => decide (y.1 ≤ n)) = [] ∧ l.filter (fun y => !decide (y.1 ≤ n)) = l := by
  intro l n h
  constructor
  · rw [List.filter_eq_nil_iff]
    intro y hy
    have := h y hy
    simp; omega
  · rw [List.filter_eq_self]
    intro y hy
    have := h y hy
    simp; omega
theorem up_head {c : Int} {x : El} {l : List El} (hu : Up (x :: l)) : upM x.1 c (x :: l) = (dg x :: (runM l x.1).1, (runM l x.1).2) := by
  obtain ⟨h1, h2⟩ := filter_gt l x.1 (List.pairwise_cons.1 hu).1
  unfold upM
  rw [List.filter_cons_of_pos (by simp), List.filter_cons_of_neg (by simp), h1, h2]
  simp [lastN]

theorem put_twice {c : Int} {l : List El} {d : Dg} {till : Int} (h1 : ¬ d.1 ≤ c) (h2 : (l.any fun x => x.1 == d.1) = true) : putM c l d till = ((3, []), c, l) := by
  unfold putM fitsM; rw [if_neg h1, if_pos h2]; rfl
theorem put_far {c : Int} {l : List El} {d : Dg} {till : Int} (h1 : ¬ d.1 ≤ c) (h2 : (l.any fun x => x.1 == d.1) = false) (h3 : top < d.1) : putM c l d till = ((4, []), c, l) := by
  unfold putM fitsM; rw [if_neg h1, h2, if_pos h3]; rfl
theorem fits_yes {c : Int} {l : List El} {n : Int} (h1 : ¬ n ≤ c) (h2 : (l.any fun x => x.1 == n) = false) (h3 : ¬ top < n) : (fitsM c l n).2 = true := by
  unfold fitsM; rw [if_neg h1, h2, if_neg h3]; rfl

set_option maxRecDepth 100000 in
set_option maxHeartbeats 2000000 in
theorem rput_any (q : Nat) (c : Int) (l : List El) (d : Dg) (till : Int) (hok : Ok c l) (hl : l.length ≤ 32) (w : World) (S : Nat → Prop) (h : (refA q c l).holds w S) :
    Calls Try.prog 26 #[.pointer (some ⟨q, 0, none⟩), .agg #[.int .i64 d.1, .string d.2], .int .i64 till] w (fun e w' => ∃ v', e = .returned (.tuple #[.int .i64 (putM c l d till).1.1, v']) ∧ St w S w' [rowA 2 v' (putM c l d till).1.2.length (dgs (putM c l d till).1.2), refA q (putM c l d till).2.1 (putM c l d till).2.2]) := by
  obtain ⟨i0, hi, hz, hz1, hz2⟩ := info_parts wt_info
  obtain ⟨R, hR⟩ : ∃ R, R = putM c l d till := ⟨_, rfl⟩
  rw [← hR]
  obtain ⟨d1, d2⟩ := d
  obtain ⟨L, hp, H0⟩ := refA_parts (St.start (Sep.one h))
  have hL : L.length = l.length := hp.length_eq
  have hL9 : L.length ≤ 32 := by omega
  have H1 := H0.alloc [.int .i64 d1, .string d2] 45
  obtain ⟨ga, cap, H2⟩ := refS_parts H0
  have R0 := St.rd (by omega) 1 H2 rfl
  obtain ⟨z2, k2, f2⟩ := H2.box 0 rfl
  have n1 : ¬ q = w.heap.size := by omega
  have n2 : ¬ w.heap.size = q := by omega
  have hc0 := hok.c0
  have hc1 := hok.c1
  unfold top at hc1
  clear h H0 H2
  replace H1 := Lib.hid H1; replace R0 := Lib.hid R0; replace hR := Lib.hid hR; replace hp := Lib.hid hp; replace hok := Lib.hid hok; replace hL := Lib.hid hL
  by_cases g1 : d1 ≤ c
  · have q1 : decide (d1 ≤ c) = true := decide_eq_true g1
    have hR2 : R = ((2, []), c, l) := by rw [hR.out]; unfold putM fitsM; simp [g1]
    subst hR2
    replace g1 := Lib.hid g1
    go_enter Try.func26, Try.ntmps26
    go_wp2_with fail
    refine wp_region_near (by kernel_rfl) (by kernel_rfl) ?_
    intro hs
    repeat (go_big_quiet_step (fail))
    refine wpQuiet_nil ?_
    clear hs
    intro w2 hb2
    have H3 := (refA_shut hp.out ((H1.out.thru hb2).front 1 rfl)).row_nil (size := 2)
    replace H3 := Lib.hid H3
    go_wp2_with fail
    go_ret2
    exact ⟨_, rfl, H3.out.drops 2⟩
  · have q1 : decide (d1 ≤ c) = false := decide_eq_false g1
    go_enter Try.func26, Try.ntmps26
    go_wp2_with fail
    refine wp_region_near (by kernel_rfl) (by kernel_rfl) ?_
    intro hs
    repeat (go_big_quiet_step (fail))
    refine wpQuiet_nil ?_
    clear hs
    intro w2 hb2
    have H3 := H1.out.thru hb2
    clear H1 hb2 k2 f2
    replace H3 := Lib.hid H3
    go_wp2_with fail
    go_loopg [8] L.length (fun g v8 wr => ∃ j : Nat, j ≤ L.length ∧ g = L.length - j ∧ v8 = .int .i64 j ∧ Hid (∀ m (hm : m < L.length), m < j → L[m].1 ≠ d1) ∧ Hid (St w S wr [refS q c L, cellA w.heap.size [.int .i64 d1, .string d2]]))
    case atStart => exact ⟨0, by omega, by omega, rfl, Lib.hid (by omega), Lib.hid (H3.out.arr [1, 0] rfl)⟩
    case round =>
      obtain ⟨j, hj, hg, rfl, hno, hst⟩ := hrel
      obtain ⟨ga, cap, H4⟩ := refS_parts hst.out
      obtain ⟨z2, k2, f2⟩ := H4.box 0 rfl
      obtain ⟨z3, k3, f3⟩ := H4.box 2 rfl
      have R1 := St.rd (by omega) 1 H4 rfl
      clear H3 R0
      by_cases hlt : j < L.length
      · obtain ⟨b, off, rfl, hb, hc⟩ := wait_at R1 rfl (by omega)
        obtain ⟨e0, e1, e2⟩ := hc j hlt
        clear hc R1
        have t1 : (0 : Int) ≤ j ∧ (j : Int) < L.length := ⟨by omega, by omega⟩
        by_cases hq : L[j].1 = d1
        · have q2 : decide (L[j].1 = d1) = true := decide_eq_true hq
          have q3 : (L[j].1 == d1) = true := by simpa using hq
          have ha : (l.any fun x => x.1 == d1) = true := by
            rw [← perm_any hp.out, List.any_eq_true]
            exact ⟨L[j], List.getElem_mem hlt, by simpa using hq⟩
          have hR2 : R = ((3, []), c, l) := by rw [hR.out]; exact put_twice (by omega) ha
          subst hR2
          replace g1 := Lib.hid g1; replace hq := Lib.hid hq; replace H4 := Lib.hid H4; replace hg := Lib.hid hg; replace ha := Lib.hid ha
          go_wp2_with fail
          refine wp_region_near (by kernel_rfl) (by kernel_rfl) ?_
          intro hs
          repeat (go_big_quiet_step (fail))
          refine wpQuiet_nil ?_
          clear hs
          intro w4 hb4
          have H5 := (refA_shut hp.out (hst.out.thru hb4)).row_nil (size := 2)
          replace H5 := Lib.hid H5
          go_wp2_with fail
          go_ret2
          exact ⟨_, rfl, H5.out.drops 2⟩
        · have q2 : decide (L[j].1 = d1) = false := decide_eq_false hq
          have q3 : (L[j].1 == d1) = false := by simpa using hq
          replace g1 := Lib.hid g1; replace hq := Lib.hid hq; replace H4 := Lib.hid H4; replace hg := Lib.hid hg
          go_wp2_with fail
          refine wp_region_near (by kernel_rfl) (by kernel_rfl) ?_
          intro hs
          repeat (go_big_quiet_step (fail))
          refine wpQuiet_nil ?_
          clear hs
          intro w4 hb4
          go_wp2_with fail
          go_roundg (L.length - (j + 1))
          case measure => have := hg.out; omega
          case rel => exact ⟨j + 1, by omega, rfl, by go_num, Lib.hid fun m hm hm1 => (Nat.lt_or_eq_of_le (Nat.le_of_lt_succ hm1)).elim (hno.out m hm) fun e => by simpa only [e] using hq.out, Lib.hid (hst.out.thru hb4)⟩
      · have ha : (l.any fun x => x.1 == d1) = false := by
          rw [← perm_any hp.out]
          exact any_none fun i hi => by have := hno.out i hi (by omega); simpa using this
        by_cases g4 : 140737488355327 < d1
        · have q4 : decide (140737488355327 < d1) = true := decide_eq_true g4
          have hR2 : R = ((4, []), c, l) := by rw [hR.out]; exact put_far (by omega) ha (by unfold top; omega)
          subst hR2
          have H5 := (refA_shut hp.out hst.out).row_nil (size := 2)
          replace g1 := Lib.hid g1; replace H4 := Lib.hid H4; replace hg := Lib.hid hg; replace ha := Lib.hid ha; replace g4 := Lib.hid g4; replace H5 := Lib.hid H5
          go_wp2_with fail
          go_ret2
          exact ⟨_, rfl, H5.out.drops 2⟩
        · have q4 : decide (140737488355327 < d1) = false := decide_eq_false g4
          have hf : (fitsM c l d1).2 = true := fits_yes (by omega) ha (by unfold top; omega)
          have hfo : Ok c (lay (d1, d2) till l) := lay_ok (d1, d2) till hok.out hf
          have hlp : (L ++ [(d1, d2, till)]).Perm (lay (d1, d2) till l) := (List.perm_append_singleton _ _).trans ((hp.out.cons _).trans (lay_perm (d1, d2) till l).symm)
          have hll := lay_len (d1, d2) till l
          have hR2 : R = if d1 = c + 1 then ((0, (runM (lay (d1, d2) till l) c).1), (runM (lay (d1, d2) till l) c).2)
              else if 32 < (lay (d1, d2) till l).length then ((1, (upM (headV (lay (d1, d2) till l)).1 c (lay (d1, d2) till l)).1), (upM (headV (lay (d1, d2) till l)).1 c (lay (d1, d2) till l)).2)
              else ((1, []), c, lay (d1, d2) till l) := by
            rw [hR.out]; unfold putM; rw [if_pos hf]
          have g1' : c < d1 := by omega
          have g4' : d1 ≤ 140737488355327 := by omega
          clear hf ha hno hok g1 g4 hR hst
          generalize lay (d1, d2) till l = M at *
          have ga0 : ga = none → L.length = 0 := by
            intro e
            subst e
            rcases R1 with R1 | ⟨_, _, e, _⟩
            · have := congrArg List.length R1
              rw [encs_len, List.length_nil] at this
              omega
            · cases e
          replace H4 := Lib.hid H4; replace hg := Lib.hid hg; replace hR2 := Lib.hid hR2; replace hfo := Lib.hid hfo; replace hlp := Lib.hid hlp; replace hll := Lib.hid hll; replace R1 := Lib.hid R1; replace ga0 := Lib.hid ga0
          go_wp2_with fail
          refine wp_region_to 14 [0, 2, 3, 4, 5, 7, 8, 9] [true, false, true, true, true, true, false, true, true, true, false, false, false, false, false] 6 #[true, false, true, true, true, true, false, true, true, true, false, false, false, false, false] (by kernel_rfl) rfl (by kernel_rfl) (by kernel_rfl) rfl (by kernel_rfl) (by kernel_rfl) (by intro c a a' w e h; obtain ⟨t, d⟩ := a; obtain ⟨t', d'⟩ := a'; obtain rfl : d = d' := e; exact h) ?_
          intro hs
          simp only [pickB]
          repeat (go_big_quiet_step (fail))
          refine wpQuiet_nil ?_
          clear hs
          intro W hW
          rw [← hW] at H4
          replace hW := Lib.hid hW
          have Z : St W none0 W.drew [] := (St.zero W).drew
          have hr : Rd W ga (encs L) := St.rd (by omega) 1 H4.out rfl
          refine to_two (i := 1) (j := 10) (by kernel_rfl) (fun K hK => ?_) (fun K hK => ?_) <;> simp only [List.drop_succ_cons, List.drop_zero, List.take_succ_cons, List.take_zero]
          · go_wp2_with fail
            have E1 := Z.alloc [] 109
            refine hK _ _ E1.below ?_
            clear hK K
            have E2 := E1.row_empty (size := 3) 0 rfl
            have hr2 := hr.of_st E2
            refine to_two (i := 6) (j := 10) (by kernel_rfl) (fun K hK => ?_) (fun K hK => ?_) <;> simp only [List.drop_succ_cons, List.drop_zero, List.take_succ_cons, List.take_zero]
            · go_wp2_with (at_builtin; (refine wpList_appRd rfl (.tmp 41) (.tmp 45) _ rfl 109 i0 _ 3 32 Try.underlying53 hi hz hz1 hz2 rfl (by omega) 0 _ 0 [] rfl E2 rfl ga L.length cap (encs L) rfl (encs_len L) hr2 ga0.out (encs_one L) (by omega) (by omega) ?_; intro wv5 w5 HA; (try simp only [Nat.zero_add, List.nil_append] at HA)))
              refine hK _ _ HA.below ?_
              clear hK K
              refine to_one (i := 10) (by kernel_rfl) fun K hK => ?_
              simp only [List.drop_succ_cons, List.drop_zero, List.take_succ_cons, List.take_zero]
              go_wp2_with fail
              have HB := St.alloc HA [.int .i64 d1, .string d2, .int .i64 till] 109
              try simp only [World.size_alloc, World.size_drew] at HB
              refine hK _ _ (St.below HB) ?_
              clear hK K
              refine to_one (i := 11) (by kernel_rfl) fun K hK => ?_
              simp only [List.drop_succ_cons, List.drop_zero, List.take_succ_cons, List.take_zero]
              go_wp2_with (at_builtin; (refine wpList_appRd rfl (.tmp 46) (.tmp 50) _ rfl 109 i0 _ 3 32 Try.underlying53 hi hz hz1 hz2 rfl (by omega) 1 _ L.length (encs L) rfl HB rfl _ 1 1 [.int .i64 d1, .string d2, .int .i64 till] rfl rfl (St.box 0 HB rfl).rd (by simp) (by simp [Value.oneCell']) (by omega) (by omega) ?_; intro wv6 w6 HC))
              refine hK _ _ HC.below ?_
              clear hK K
              have hb6 := HC.below
              refine to_one (i := 12) (by kernel_rfl) fun K hK => ?_
              simp only [List.drop_succ_cons, List.drop_zero, List.take_succ_cons, List.take_zero]
              go_wp2_with fail
              refine hK _ _ hb6 ?_
              clear hK K
              refine to_one (i := 13) (by kernel_rfl) fun K hK => ?_
              simp only [List.drop_succ_cons, List.drop_zero, List.take_succ_cons, List.take_zero]
              go_wp2_with fail
              refine hK _ _ hb6 ?_
              clear hK K
              refine to_last (by kernel_rfl) (by kernel_rfl) fun K hK => ?_
              simp only [List.drop_succ_cons, List.drop_zero, List.take_succ_cons, List.take_zero]
              have HD : St W none0 w6 [rowA 3 wv6 (L.length + 1) (encs L ++ enc (d1, d2, till))] := ((HC).front 0 rfl).drops 1
              rw [encs_app] at HD
              obtain ⟨ga6, cap6, rfl, _⟩ := St.slice (by omega) 0 HD rfl
              have HF := H4.out.add HD
              clear HC HD H4
              obtain ⟨zq, cq, fq⟩ := HF.box 1 rfl
              have HG := HF.set 1 rfl 0 (.slice ga6 (L.length + 1) cap6) (by simp)
              clear HF
              simp only [List.set_cons_zero, List.cons_append, List.nil_append, List.eraseIdx_cons_succ, List.eraseIdx_cons_zero] at HG
              replace HG := Lib.hid HG
              go_wp2_with fail
              have HI := HG.out
              obtain ⟨w7, hw7⟩ : ∃ w7, w7 = w6.setCell ⟨q, 0, none⟩ (Value.slice ga6 (L.length + 1) cap6) := ⟨_, rfl⟩
              rw [← hw7] at HI ⊢
              obtain ⟨zr, cr, fr⟩ := HI.box 0 rfl
              obtain ⟨zb, cb, fb⟩ := HI.box 3 rfl
              have HJ := refS_shut (L := L ++ [(d1, d2, till)]) (by rw [List.length_append]; rfl) (HI.arrN [0, 1] rfl)
              have hw : IntKind.i64.wrap (c + 1) = c + 1 := by rw [IntKind.wrap_i64]; omega
              clear cq fq zq hW Z hr
              replace hw7 := Lib.hid hw7
              replace HI := Lib.hid HI
              replace HJ := Lib.hid HJ
              refine wp_region_near (by kernel_rfl) (by kernel_rfl) ?_
              intro hs
              repeat (go_big_quiet_step (fail))
              refine wpQuiet_nil ?_
              clear hs
              intro w8 hb8
              have HK := (refA_shut hlp.out (HJ.out.thru hb8)).drops 1
              clear HG HJ HI cr fr cb fb
              by_cases hq : d1 = c + 1
              · have q5 : decide (d1 = c + 1) = true := decide_eq_true hq
                have q6 : (d1 == c + 1) = true := by simpa using hq
                have hR3 := hR2.out
                rw [if_pos hq] at hR3
                have H8 := (HK.row_nil (size := 2)).all
                have P3 := ex_at 0 H8 rfl fun S1 h1 => rrun_any q c M (.slice none 0 0) [] hfo.out.up (by have := hll.out; omega) (by simp) (by omega) (by unfold top; omega) (fun x hx => (hfo.out.mem x hx).2) _ S1 h1
                replace hq := Lib.hid hq
                clear HK H8 hR2 hb8
                replace P3 := Lib.hid P3; replace hR3 := Lib.hid hR3
                go_wp2_with fail
                refine Calls.mono P3.out ?_
                rintro e w9 ⟨v', rfl, H9⟩
                clear P3
                replace H9 := Lib.hid H9
                go_wp2_with fail
                go_ret2
                rw [hR3.out]
                exact ⟨v', rfl, H9.out⟩
              · have q5 : decide (d1 = c + 1) = false := decide_eq_false hq
                have q6 : (d1 == c + 1) = false := by simpa using hq
                have hR3 := hR2.out
                rw [if_neg hq] at hR3
                replace hq := Lib.hid hq
                obtain ⟨L8, hp8, HL⟩ := refA_parts HK
                obtain ⟨ga8, cap8, HM⟩ := refS_parts HL
                obtain ⟨z8, k8, f8⟩ := HM.box 0 rfl
                have hL8 : L8.length = M.length := hp8.length_eq
                have hM : M.length ≤ 33 := by have := hll.out; omega
                clear HL HM hR2 hb8
                by_cases hq3 : 32 < M.length
                · have q7 : decide ((32 : Int) < (L8.length : Int)) = true := decide_eq_true (by omega)
                  rw [if_pos hq3] at hR3
                  replace hq3 := Lib.hid hq3
                  cases M with
                  | nil => have := hq3.out; simp at this
                  | cons x M =>
                    have hup := hfo.out.up
                    rw [show (headV (x :: M)) = x from rfl, up_head hup] at hR3
                    have hlM : M.length ≤ 900 := by simp only [List.length_cons] at hM; omega
                    have P3 := Calls.st_at 0 HK rfl fun S1 h1 => rrel_any q c x M hup hlM _ S1 h1
                    have hxt := (hfo.out.mem x (by simp))
                    have hMt : ∀ y ∈ M, y.1 ≤ top := fun y hy => (hfo.out.mem y (List.mem_cons_of_mem _ hy)).2
                    have huM := (List.pairwise_cons.1 hup).2
                    obtain ⟨x1, x2, x3⟩ := x
                    simp only at hR3 hxt P3
                    clear HK
                    replace P3 := Lib.hid P3; replace hR3 := Lib.hid hR3; replace hL8 := Lib.hid hL8; replace hM := Lib.hid hM; replace hup := Lib.hid hup; replace hMt := Lib.hid hMt; replace huM := Lib.hid huM; replace hxt := Lib.hid hxt
                    go_wp2_with fail
                    refine Calls.mono P3.out ?_
                    rintro e w9 ⟨rfl, H9⟩
                    clear P3
                    have H10 := (H9.alloc [.int .i64 x1, .string x2] 45).row_grown (size := 2) (n := 1) (G := 1) 0 rfl rfl (by omega) (by unfold maxLen; omega)
                    have P4 := ex_at 0 H10.all rfl fun S1 h1 => rrun_any q x1 M (.slice (some ⟨w9.heap.size, 0, none⟩) 1 1) [(x1, x2)] huM.out hlM (by simp) (by have := hxt.out; have := hfo.out.c0; omega) hxt.out.2 hMt.out _ S1 h1
                    clear H9 H10
                    replace P4 := Lib.hid P4
                    go_wp2_with fail
                    refine Calls.mono P4.out ?_
                    rintro e w10 ⟨v', rfl, H11⟩
                    clear P4
                    replace H11 := Lib.hid H11
                    go_wp2_with fail
                    go_ret2
                    rw [hR3.out]
                    exact ⟨v', rfl, H11.out⟩
                · have q7 : decide ((32 : Int) < (L8.length : Int)) = false := decide_eq_false (by omega)
                  rw [if_neg hq3] at hR3
                  have H9 := (HK.row_nil (size := 2))
                  replace hq3 := Lib.hid hq3
                  replace HK := Lib.hid HK; replace hR3 := Lib.hid hR3; replace hL8 := Lib.hid hL8; replace hM := Lib.hid hM; replace H9 := Lib.hid H9
                  go_wp2_with fail
                  go_ret2
                  rw [hR3.out]
                  exact ⟨_, rfl, H9.out⟩
            · go_wp2_with fail
              have HB := St.alloc E2 [.int .i64 d1, .string d2, .int .i64 till] 109
              try simp only [World.size_alloc, World.size_drew] at HB
              refine hK _ _ (St.below HB) ?_
              clear hK K
              have hr3 := hr.of_st HB
              refine to_one (i := 6) (by kernel_rfl) fun K hK => ?_
              simp only [List.drop_succ_cons, List.drop_zero, List.take_succ_cons, List.take_zero]
              go_wp2_with (at_builtin; (refine wpList_appRd rfl (.tmp 41) (.tmp 45) _ rfl 109 i0 _ 3 32 Try.underlying53 hi hz hz1 hz2 rfl (by omega) 1 _ 0 [] rfl HB rfl ga L.length cap (encs L) rfl (encs_len L) hr3 ga0.out (encs_one L) (by omega) (by omega) ?_; intro wv5 w5 HA; (try simp only [Nat.zero_add, List.nil_append] at HA)))
              refine hK _ _ HA.below ?_
              clear hK K
              refine to_one (i := 11) (by kernel_rfl) fun K hK => ?_
              simp only [List.drop_succ_cons, List.drop_zero, List.take_succ_cons, List.take_zero]
              go_wp2_with (at_builtin; (refine wpList_appRd rfl (.tmp 46) (.tmp 50) _ rfl 109 i0 _ 3 32 Try.underlying53 hi hz hz1 hz2 rfl (by omega) 0 _ L.length (encs L) rfl HA rfl _ 1 1 [.int .i64 d1, .string d2, .int .i64 till] rfl rfl (St.box 1 HA rfl).rd (by simp) (by simp [Value.oneCell']) (by omega) (by omega) ?_; intro wv6 w6 HC))
              refine hK _ _ HC.below ?_
              clear hK K
              have hb6 := HC.below
              refine to_one (i := 12) (by kernel_rfl) fun K hK => ?_
              simp only [List.drop_succ_cons, List.drop_zero, List.take_succ_cons, List.take_zero]
              go_wp2_with fail
              refine hK _ _ hb6 ?_
              clear hK K
              refine to_one (i := 13) (by kernel_rfl) fun K hK => ?_
              simp only [List.drop_succ_cons, List.drop_zero, List.take_succ_cons, List.take_zero]
              go_wp2_with fail
              refine hK _ _ hb6 ?_
              clear hK K
              refine to_last (by kernel_rfl) (by kernel_rfl) fun K hK => ?_
              simp only [List.drop_succ_cons, List.drop_zero, List.take_succ_cons, List.take_zero]
              have HD : St W none0 w6 [rowA 3 wv6 (L.length + 1) (encs L ++ enc (d1, d2, till))] := ((HC).front 0 rfl).drops 1
              rw [encs_app] at HD
              obtain ⟨ga6, cap6, rfl, _⟩ := St.slice (by omega) 0 HD rfl
              have HF := H4.out.add HD
              clear HC HD H4
              obtain ⟨zq, cq, fq⟩ := HF.box 1 rfl
              have HG := HF.set 1 rfl 0 (.slice ga6 (L.length + 1) cap6) (by simp)
              clear HF
              simp only [List.set_cons_zero, List.cons_append, List.nil_append, List.eraseIdx_cons_succ, List.eraseIdx_cons_zero] at HG
              replace HG := Lib.hid HG
              go_wp2_with fail
              have HI := HG.out
              obtain ⟨w7, hw7⟩ : ∃ w7, w7 = w6.setCell ⟨q, 0, none⟩ (Value.slice ga6 (L.length + 1) cap6) := ⟨_, rfl⟩
              rw [← hw7] at HI ⊢
              obtain ⟨zr, cr, fr⟩ := HI.box 0 rfl
              obtain ⟨zb, cb, fb⟩ := HI.box 3 rfl
              have HJ := refS_shut (L := L ++ [(d1, d2, till)]) (by rw [List.length_append]; rfl) (HI.arrN [0, 1] rfl)
              have hw : IntKind.i64.wrap (c + 1) = c + 1 := by rw [IntKind.wrap_i64]; omega
              clear cq fq zq hW Z hr
              replace hw7 := Lib.hid hw7
              replace HI := Lib.hid HI
              replace HJ := Lib.hid HJ
              refine wp_region_near (by kernel_rfl) (by kernel_rfl) ?_
              intro hs
              repeat (go_big_quiet_step (fail))
              refine wpQuiet_nil ?_
              clear hs
              intro w8 hb8
              have HK := (refA_shut hlp.out (HJ.out.thru hb8)).drops 1
              clear HG HJ HI cr fr cb fb
              by_cases hq : d1 = c + 1
              · have q5 : decide (d1 = c + 1) = true := decide_eq_true hq
                have q6 : (d1 == c + 1) = true := by simpa using hq
                have hR3 := hR2.out
                rw [if_pos hq] at hR3
                have H8 := (HK.row_nil (size := 2)).all
                have P3 := ex_at 0 H8 rfl fun S1 h1 => rrun_any q c M (.slice none 0 0) [] hfo.out.up (by have := hll.out; omega) (by simp) (by omega) (by unfold top; omega) (fun x hx => (hfo.out.mem x hx).2) _ S1 h1
                replace hq := Lib.hid hq
                clear HK H8 hR2 hb8
                replace P3 := Lib.hid P3; replace hR3 := Lib.hid hR3
                go_wp2_with fail
                refine Calls.mono P3.out ?_
                rintro e w9 ⟨v', rfl, H9⟩
                clear P3
                replace H9 := Lib.hid H9
                go_wp2_with fail
                go_ret2
                rw [hR3.out]
                exact ⟨v', rfl, H9.out⟩
              · have q5 : decide (d1 = c + 1) = false := decide_eq_false hq
                have q6 : (d1 == c + 1) = false := by simpa using hq
                have hR3 := hR2.out
                rw [if_neg hq] at hR3
                replace hq := Lib.hid hq
                obtain ⟨L8, hp8, HL⟩ := refA_parts HK
                obtain ⟨ga8, cap8, HM⟩ := refS_parts HL
                obtain ⟨z8, k8, f8⟩ := HM.box 0 rfl
                have hL8 : L8.length = M.length := hp8.length_eq
                have hM : M.length ≤ 33 := by have := hll.out; omega
                clear HL HM hR2 hb8
                by_cases hq3 : 32 < M.length
                · have q7 : decide ((32 : Int) < (L8.length : Int)) = true := decide_eq_true (by omega)
                  rw [if_pos hq3] at hR3
                  replace hq3 := Lib.hid hq3
                  cases M with
                  | nil => have := hq3.out; simp at this
                  | cons x M =>
                    have hup := hfo.out.up
                    rw [show (headV (x :: M)) = x from rfl, up_head hup] at hR3
                    have hlM : M.length ≤ 900 := by simp only [List.length_cons] at hM; omega
                    have P3 := Calls.st_at 0 HK rfl fun S1 h1 => rrel_any q c x M hup hlM _ S1 h1
                    have hxt := (hfo.out.mem x (by simp))
                    have hMt : ∀ y ∈ M, y.1 ≤ top := fun y hy => (hfo.out.mem y (List.mem_cons_of_mem _ hy)).2
                    have huM := (List.pairwise_cons.1 hup).2
                    obtain ⟨x1, x2, x3⟩ := x
                    simp only at hR3 hxt P3
                    clear HK
                    replace P3 := Lib.hid P3; replace hR3 := Lib.hid hR3; replace hL8 := Lib.hid hL8; replace hM := Lib.hid hM; replace hup := Lib.hid hup; replace hMt := Lib.hid hMt; replace huM := Lib.hid huM; replace hxt := Lib.hid hxt
                    go_wp2_with fail
                    refine Calls.mono P3.out ?_
                    rintro e w9 ⟨rfl, H9⟩
                    clear P3
                    have H10 := (H9.alloc [.int .i64 x1, .string x2] 45).row_grown (size := 2) (n := 1) (G := 1) 0 rfl rfl (by omega) (by unfold maxLen; omega)
                    have P4 := ex_at 0 H10.all rfl fun S1 h1 => rrun_any q x1 M (.slice (some ⟨w9.heap.size, 0, none⟩) 1 1) [(x1, x2)] huM.out hlM (by simp) (by have := hxt.out; have := hfo.out.c0; omega) hxt.out.2 hMt.out _ S1 h1
                    clear H9 H10
                    replace P4 := Lib.hid P4
                    go_wp2_with fail
                    refine Calls.mono P4.out ?_
                    rintro e w10 ⟨v', rfl, H11⟩
                    clear P4
                    replace H11 := Lib.hid H11
                    go_wp2_with fail
                    go_ret2
                    rw [hR3.out]
                    exact ⟨v', rfl, H11.out⟩
                · have q7 : decide ((32 : Int) < (L8.length : Int)) = false := decide_eq_false (by omega)
                  rw [if_neg hq3] at hR3
                  have H9 := (HK.row_nil (size := 2))
                  replace hq3 := Lib.hid hq3
                  replace HK := Lib.hid HK; replace hR3 := Lib.hid hR3; replace hL8 := Lib.hid hL8; replace hM := Lib.hid hM; replace H9 := Lib.hid H9
                  go_wp2_with fail
                  go_ret2
                  rw [hR3.out]
                  exact ⟨_, rfl, H9.out⟩
          · go_wp2_with fail
            have HB := St.alloc Z [.int .i64 d1, .string d2, .int .i64 till] 109
            try simp only [World.size_alloc, World.size_drew] at HB
            refine hK _ _ (St.below HB) ?_
            clear hK K
            refine to_one (i := 1) (by kernel_rfl) fun K hK => ?_
            simp only [List.drop_succ_cons, List.drop_zero, List.take_succ_cons, List.take_zero]
            go_wp2_with fail
            have E1 := HB.alloc [] 109
            try simp only [World.size_alloc, World.size_drew] at E1
            refine hK _ _ E1.below ?_
            clear hK K
            have E2 := E1.row_empty (size := 3) 0 rfl
            have hr2 := hr.of_st E2
            refine to_one (i := 6) (by kernel_rfl) fun K hK => ?_
            simp only [List.drop_succ_cons, List.drop_zero, List.take_succ_cons, List.take_zero]
            go_wp2_with (at_builtin; (refine wpList_appRd rfl (.tmp 41) (.tmp 45) _ rfl 109 i0 _ 3 32 Try.underlying53 hi hz hz1 hz2 rfl (by omega) 0 _ 0 [] rfl E2 rfl ga L.length cap (encs L) rfl (encs_len L) hr2 ga0.out (encs_one L) (by omega) (by omega) ?_; intro wv5 w5 HA; (try simp only [Nat.zero_add, List.nil_append] at HA)))
            refine hK _ _ HA.below ?_
            clear hK K
            refine to_one (i := 11) (by kernel_rfl) fun K hK => ?_
            simp only [List.drop_succ_cons, List.drop_zero, List.take_succ_cons, List.take_zero]
            go_wp2_with (at_builtin; (refine wpList_appRd rfl (.tmp 46) (.tmp 50) _ rfl 109 i0 _ 3 32 Try.underlying53 hi hz hz1 hz2 rfl (by omega) 0 _ L.length (encs L) rfl HA rfl _ 1 1 [.int .i64 d1, .string d2, .int .i64 till] rfl rfl (St.box 1 HA rfl).rd (by simp) (by simp [Value.oneCell']) (by omega) (by omega) ?_; intro wv6 w6 HC))
            refine hK _ _ HC.below ?_
            clear hK K
            have hb6 := HC.below
            refine to_one (i := 12) (by kernel_rfl) fun K hK => ?_
            simp only [List.drop_succ_cons, List.drop_zero, List.take_succ_cons, List.take_zero]
            go_wp2_with fail
            refine hK _ _ hb6 ?_
            clear hK K
            refine to_one (i := 13) (by kernel_rfl) fun K hK => ?_
            simp only [List.drop_succ_cons, List.drop_zero, List.take_succ_cons, List.take_zero]
            go_wp2_with fail
            refine hK _ _ hb6 ?_
            clear hK K
            refine to_last (by kernel_rfl) (by kernel_rfl) fun K hK => ?_
            simp only [List.drop_succ_cons, List.drop_zero, List.take_succ_cons, List.take_zero]
            have HD : St W none0 w6 [rowA 3 wv6 (L.length + 1) (encs L ++ enc (d1, d2, till))] := ((HC).front 0 rfl).drops 1
            rw [encs_app] at HD
            obtain ⟨ga6, cap6, rfl, _⟩ := St.slice (by omega) 0 HD rfl
            have HF := H4.out.add HD
            clear HC HD H4
            obtain ⟨zq, cq, fq⟩ := HF.box 1 rfl
            have HG := HF.set 1 rfl 0 (.slice ga6 (L.length + 1) cap6) (by simp)
            clear HF
            simp only [List.set_cons_zero, List.cons_append, List.nil_append, List.eraseIdx_cons_succ, List.eraseIdx_cons_zero] at HG
            replace HG := Lib.hid HG
            go_wp2_with fail
            have HI := HG.out
            obtain ⟨w7, hw7⟩ : ∃ w7, w7 = w6.setCell ⟨q, 0, none⟩ (Value.slice ga6 (L.length + 1) cap6) := ⟨_, rfl⟩
            rw [← hw7] at HI ⊢
            obtain ⟨zr, cr, fr⟩ := HI.box 0 rfl
            obtain ⟨zb, cb, fb⟩ := HI.box 3 rfl
            have HJ := refS_shut (L := L ++ [(d1, d2, till)]) (by rw [List.length_append]; rfl) (HI.arrN [0, 1] rfl)
            have hw : IntKind.i64.wrap (c + 1) = c + 1 := by rw [IntKind.wrap_i64]; omega
            clear cq fq zq hW Z hr
            replace hw7 := Lib.hid hw7
            replace HI := Lib.hid HI
            replace HJ := Lib.hid HJ
            refine wp_region_near (by kernel_rfl) (by kernel_rfl) ?_
            intro hs
            repeat (go_big_quiet_step (fail))
            refine wpQuiet_nil ?_
            clear hs
            intro w8 hb8
            have HK := (refA_shut hlp.out (HJ.out.thru hb8)).drops 1
            clear HG HJ HI cr fr cb fb
            by_cases hq : d1 = c + 1
            · have q5 : decide (d1 = c + 1) = true := decide_eq_true hq
              have q6 : (d1 == c + 1) = true := by simpa using hq
              have hR3 := hR2.out
              rw [if_pos hq] at hR3
              have H8 := (HK.row_nil (size := 2)).all
              have P3 := ex_at 0 H8 rfl fun S1 h1 => rrun_any q c M (.slice none 0 0) [] hfo.out.up (by have := hll.out; omega) (by simp) (by omega) (by unfold top; omega) (fun x hx => (hfo.out.mem x hx).2) _ S1 h1
              replace hq := Lib.hid hq
              clear HK H8 hR2 hb8
              replace P3 := Lib.hid P3; replace hR3 := Lib.hid hR3
              go_wp2_with fail
              refine Calls.mono P3.out ?_
              rintro e w9 ⟨v', rfl, H9⟩
              clear P3
              replace H9 := Lib.hid H9
              go_wp2_with fail
              go_ret2
              rw [hR3.out]
              exact ⟨v', rfl, H9.out⟩
            · have q5 : decide (d1 = c + 1) = false := decide_eq_false hq
              have q6 : (d1 == c + 1) = false := by simpa using hq
              have hR3 := hR2.out
              rw [if_neg hq] at hR3
              replace hq := Lib.hid hq
              obtain ⟨L8, hp8, HL⟩ := refA_parts HK
              obtain ⟨ga8, cap8, HM⟩ := refS_parts HL
              obtain ⟨z8, k8, f8⟩ := HM.box 0 rfl
              have hL8 : L8.length = M.length := hp8.length_eq
              have hM : M.length ≤ 33 := by have := hll.out; omega
              clear HL HM hR2 hb8
              by_cases hq3 : 32 < M.length
              · have q7 : decide ((32 : Int) < (L8.length : Int)) = true := decide_eq_true (by omega)
                rw [if_pos hq3] at hR3
                replace hq3 := Lib.hid hq3
                cases M with
                | nil => have := hq3.out; simp at this
                | cons x M =>
                  have hup := hfo.out.up
                  rw [show (headV (x :: M)) = x from rfl, up_head hup] at hR3
                  have hlM : M.length ≤ 900 := by simp only [List.length_cons] at hM; omega
                  have P3 := Calls.st_at 0 HK rfl fun S1 h1 => rrel_any q c x M hup hlM _ S1 h1
                  have hxt := (hfo.out.mem x (by simp))
                  have hMt : ∀ y ∈ M, y.1 ≤ top := fun y hy => (hfo.out.mem y (List.mem_cons_of_mem _ hy)).2
                  have huM := (List.pairwise_cons.1 hup).2
                  obtain ⟨x1, x2, x3⟩ := x
                  simp only at hR3 hxt P3
                  clear HK
                  replace P3 := Lib.hid P3; replace hR3 := Lib.hid hR3; replace hL8 := Lib.hid hL8; replace hM := Lib.hid hM; replace hup := Lib.hid hup; replace hMt := Lib.hid hMt; replace huM := Lib.hid huM; replace hxt := Lib.hid hxt
                  go_wp2_with fail
                  refine Calls.mono P3.out ?_
                  rintro e w9 ⟨rfl, H9⟩
                  clear P3
                  have H10 := (H9.alloc [.int .i64 x1, .string x2] 45).row_grown (size := 2) (n := 1) (G := 1) 0 rfl rfl (by omega) (by unfold maxLen; omega)
                  have P4 := ex_at 0 H10.all rfl fun S1 h1 => rrun_any q x1 M (.slice (some ⟨w9.heap.size, 0, none⟩) 1 1) [(x1, x2)] huM.out hlM (by simp) (by have := hxt.out; have := hfo.out.c0; omega) hxt.out.2 hMt.out _ S1 h1
                  clear H9 H10
                  replace P4 := Lib.hid P4
                  go_wp2_with fail
                  refine Calls.mono P4.out ?_
                  rintro e w10 ⟨v', rfl, H11⟩
                  clear P4
                  replace H11 := Lib.hid H11
                  go_wp2_with fail
                  go_ret2
                  rw [hR3.out]
                  exact ⟨v', rfl, H11.out⟩
              · have q7 : decide ((32 : Int) < (L8.length : Int)) = false := decide_eq_false (by omega)
                rw [if_neg hq3] at hR3
                have H9 := (HK.row_nil (size := 2))
                replace hq3 := Lib.hid hq3
                replace HK := Lib.hid HK; replace hR3 := Lib.hid hR3; replace hL8 := Lib.hid hL8; replace hM := Lib.hid hM; replace H9 := Lib.hid H9
                go_wp2_with fail
                go_ret2
                rw [hR3.out]
                exact ⟨_, rfl, H9.out⟩
end Go.Proofs.Ytiaefmmcakagpaa.Sift

/- The walks of Due and Latest of the sift's answer. -/
namespace Go.Proofs.Ytiaefmmcakagpaa.Sift
set_option linter.unusedSimpArgs false
set_option linter.unusedVariables false
open Go Go.RowKit Go.Shelf Go.Proofs.Ytiaefmmcakagpaa
open Go.Proofs.Ytiaefmmcakagpaa.DockWait (El enc val encs encs_len encs_one encs_take encs_drop encs_app enc_len placed headV)
attribute [local irreducible] Calls

def maxN (now : Int) (l : List El) : Int := l.foldl (fun a x => if x.2.2 ≤ now then max a x.1 else a) 0
theorem maxN_perm {now : Int} {L l : List El} (hp : L.Perm l) : maxN now L = maxN now l := by
  unfold maxN
  refine hp.foldl_eq' (fun x _ y _ z => ?_) 0
  by_cases h1 : x.2.2 ≤ now <;> by_cases h2 : y.2.2 ≤ now <;> simp [h1, h2]
  omega
theorem maxN_up {now : Int} : ∀ (l : List El) (a : Int), Up l → (∀ x ∈ l, a < x.1) → l.foldl (fun a x => if x.2.2 ≤ now then max a x.1 else a) a = l.foldl (fun a x => if x.2.2 ≤ now then x.1 else a) a
  | [], _, _, _ => rfl
  | x :: l, a, hu, ha => by
    have h' := List.pairwise_cons.1 hu
    have hx := ha x (by simp)
    simp only [List.foldl_cons]
    by_cases h1 : x.2.2 ≤ now
    · rw [if_pos h1, if_pos h1, show max a x.1 = x.1 by omega]
      exact maxN_up l _ h'.2 h'.1
    · rw [if_neg h1, if_neg h1]
      exact maxN_up l _ h'.2 fun y hy => ha y (List.mem_cons_of_mem _ hy)
theorem maxN_is {now c : Int} {L l : List El} (hp : L.Perm l) (h : Ok c l) : maxN now L = dueN now l := by
  rw [maxN_perm hp]
  exact maxN_up l 0 h.up fun x hx => (h.pos x hx).1
theorem maxN_snoc (now : Int) (l : List El) (x : El) : maxN now (l ++ [x]) = if x.2.2 ≤ now then max (maxN now l) x.1 else maxN now l := by simp [maxN]
theorem up_cons {num c : Int} {x : El} {l : List El} (h : x.1 ≤ num) : upM num c (x :: l) = (dg x :: (upM num x.1 l).1, (upM num x.1 l).2) := by
  unfold upM
  rw [List.filter_cons_of_pos (by simpa using h), List.filter_cons_of_neg (by simpa using h)]
  simp [lastN]
theorem up_stop {num c : Int} {l : List El} (h : ∀ y ∈ l, num < y.1) : upM num c l = runM l c := by
  obtain ⟨h1, h2⟩ := filter_gt l num h
  unfold upM
  rw [h1, h2]
  simp [lastN]
theorem maxN_bd {now : Int} : ∀ (l : List El) (a : Int), 0 ≤ a → a ≤ top → (∀ x ∈ l, 0 < x.1 ∧ x.1 ≤ top) → 0 ≤ l.foldl (fun a x => if x.2.2 ≤ now then max a x.1 else a) a ∧ l.foldl (fun a x => if x.2.2 ≤ now then max a x.1 else a) a ≤ top
  | [], _, h0, h1, _ => ⟨h0, h1⟩
  | x :: l, a, h0, h1, h => by
    have hx := h x (by simp)
    simp only [List.foldl_cons]
    split
    · exact maxN_bd l _ (by omega) (by omega) fun y hy => h y (List.mem_cons_of_mem _ hy)
    · exact maxN_bd l _ h0 h1 fun y hy => h y (List.mem_cons_of_mem _ hy)

set_option maxRecDepth 100000 in
set_option maxHeartbeats 2000000 in
theorem rdue_any (q : Nat) (c : Int) (l : List El) (now : Int) (hok : Ok c l) (hl : l.length ≤ 100) (w : World) (S : Nat → Prop) (h : (refA q c l).holds w S) :
    Calls Try.prog 28 #[.pointer (some ⟨q, 0, none⟩), .int .i64 now] w (fun e w' => ∃ v', e = .returned v' ∧ St w S w' [rowA 2 v' (dueM c l now).1.length (dgs (dueM c l now).1), refA q (dueM c l now).2.1 (dueM c l now).2.2]) := by
  obtain ⟨i0, hi, hz, hz1, hz2⟩ := info_parts DelDg.el_info
  obtain ⟨R, hR⟩ : ∃ R, R = dueM c l now := ⟨_, rfl⟩
  rw [← hR]
  obtain ⟨L, hp, H0⟩ := refA_parts (St.start (Sep.one h))
  have hL : L.length = l.length := hp.length_eq
  have hL9 : L.length ≤ 100 := by omega
  obtain ⟨ga, cap, H2⟩ := refS_parts H0
  obtain ⟨z0, k0, f0⟩ := H2.box 0 rfl
  have hgb : ∀ i, 0 ≤ maxN now (L.take i) ∧ maxN now (L.take i) ≤ 140737488355327 := fun i => by
    refine maxN_bd _ 0 (by omega) (by unfold top; omega) fun x hx => ?_
    exact hok.pos x (hp.mem_iff.1 (List.mem_of_mem_take hx))
  clear h H2
  replace H0 := Lib.hid H0; replace hR := Lib.hid hR; replace hp := Lib.hid hp; replace hok := Lib.hid hok; replace hL := Lib.hid hL; replace hgb := Lib.hid hgb
  go_enter Try.func28, Try.ntmps28
  go_wp2_with fail
  go_loopg [5, 6] L.length (fun g v5 v6 wr => ∃ j : Nat, j ≤ L.length ∧ g = L.length - j ∧ v6 = .int .i64 j ∧ v5 = .int .i64 (maxN now (L.take j)) ∧ Hid (St w S wr [refS q c L]))
  case atStart => exact ⟨0, by omega, by omega, rfl, rfl, H0⟩
  case round =>
    obtain ⟨j, hj, hg, rfl, rfl, hst⟩ := hrel
    obtain ⟨ga, cap, H4⟩ := refS_parts hst.out
    obtain ⟨z2, k2, f2⟩ := H4.box 0 rfl
    have R1 := St.rd (by omega) 1 H4 rfl
    clear H0 k0 f0 z0
    by_cases hlt : j < L.length
    · obtain ⟨b, off, rfl, hb, hc⟩ := wait_at R1 rfl (by omega)
      obtain ⟨e0, e1, e2⟩ := hc j hlt
      clear hc R1
      have t1 : (0 : Int) ≤ j ∧ (j : Int) < L.length := ⟨by omega, by omega⟩
      have hsn : maxN now (L.take (j + 1)) = if L[j].2.2 ≤ now then max (maxN now (L.take j)) L[j].1 else maxN now (L.take j) := by rw [List.take_succ_eq_append_getElem hlt, maxN_snoc]
      generalize maxN now (L.take j) = a at *
      generalize L[j] = x at *
      obtain ⟨x1, x2, x3⟩ := x
      simp only at e0 e1 e2 hsn
      by_cases hq : x3 ≤ now
      · have q1 : decide (x3 ≤ now) = true := decide_eq_true hq
        rw [if_pos hq] at hsn
        replace hq := Lib.hid hq; replace H4 := Lib.hid H4; replace hg := Lib.hid hg; replace hsn := Lib.hid hsn
        go_wp2_with fail
        go_roundg (L.length - (j + 1))
        case measure => have := hg.out; omega
        case rel => exact ⟨j + 1, by omega, rfl, by go_num, by rw [hsn.out], hst⟩
      · have q1 : decide (x3 ≤ now) = false := decide_eq_false hq
        rw [if_neg hq] at hsn
        replace hq := Lib.hid hq; replace H4 := Lib.hid H4; replace hg := Lib.hid hg; replace hsn := Lib.hid hsn
        go_wp2_with fail
        go_roundg (L.length - (j + 1))
        case measure => have := hg.out; omega
        case rel => exact ⟨j + 1, by omega, rfl, by go_num, by rw [hsn.out], hst⟩
    · have hj2 : j = L.length := by omega
      rw [hj2, List.take_length, maxN_is hp.out hok.out]
      have hd : 0 ≤ dueN now l ∧ dueN now l ≤ 140737488355327 := by
        have h1 := hgb.out L.length
        rwa [List.take_length, maxN_is hp.out hok.out] at h1
      have hR2 := hR.out
      unfold dueM at hR2
      generalize dueN now l = num at *
      clear hj2 H4 hgb R1 hR
      by_cases h0 : num = 0
      · have q1 : decide (num = 0) = true := decide_eq_true h0
        have q2 : (num == 0) = true := by simpa using h0
        rw [if_pos h0] at hR2
        subst hR2
        have H5 := (refA_shut hp.out hst.out).row_nil (size := 2)
        replace h0 := Lib.hid h0; replace hg := Lib.hid hg; replace H5 := Lib.hid H5
        go_wp2_with fail
        go_ret
        exact ⟨_, rfl, H5.out⟩
      · have q1 : decide (num = 0) = false := decide_eq_false h0
        have q2 : (num == 0) = false := by simpa using h0
        rw [if_neg h0] at hR2
        obtain ⟨S1, hS1⟩ := hst.out.held 0 rfl
        have P1 := least_any q c L _ S1 hS1 (by omega)
        clear hS1
        replace h0 := Lib.hid h0; replace hg := Lib.hid hg; replace hR2 := Lib.hid hR2; replace P1 := Lib.hid P1
        go_wp2_with fail
        refine Calls.mono P1.out ?_
        rintro e w1 ⟨i1, rfl, hb1, hi1⟩
        have H5 := ((hst.out.thru hb1).row_nil (size := 2)).arr [1, 0] rfl
        have hgl : L.length = l.length := hL.out
        clear P1 hst
        replace H5 := Lib.hid H5; replace hi1 := Lib.hid hi1
        go_wp2_with fail
        go_loopg [7, 8] l.length (fun g v7 v8 wr => ∃ (pre : List Dg) (l' : List El) (c' i : Int) (L : List El), l'.length = g ∧ g ≤ l.length ∧ v8 = .int .i64 i ∧ Hid (Ok c' l') ∧ Hid (R = (pre ++ (upM num c' l').1, (upM num c' l').2)) ∧ pre.length + l'.length = l.length ∧ Hid (L.Perm l') ∧ Hid (IsLeast L i) ∧
          Hid (St w S wr [refS q c' L, rowA 2 v7 pre.length (dgs pre)]))
        case atStart => exact ⟨[], l, c, i1, L, rfl, Nat.le_refl _, rfl, hok, Lib.hid (by rw [hR2.out, List.nil_append]), by simp, hp, hi1, H5⟩
        case round =>
          obtain ⟨pre, l', c', i', L', hgg, hgn, rfl, hok', hR', hpl, hp', hi', hst⟩ := hrel
          clear H5 hp hi1 hok hL hgl hL9 hj hlt
          have hstop : (∀ y ∈ l', num < y.1) → ∃ P : Prop, P := fun _ => ⟨True, trivial⟩
          clear hstop
          cases l' with
          | nil =>
            obtain rfl : L' = [] := hp'.out.eq_nil
            rcases hi'.out with ⟨_, rfl⟩ | ⟨k, hk, _⟩
            · have hR3 := hR'.out
              rw [up_stop (by simp)] at hR3
              have H6 := ((refA_shut hp'.out hst.out).arr [1, 0] rfl).all
              have P2 := ex_at 0 H6 rfl fun S1 h1 => rrun_any q c' [] u7 pre hok'.out.up (by simp) (by simp only [List.length_nil] at hpl; omega) hok'.out.c0 hok'.out.c1 (by simp) _ S1 h1
              clear H6
              replace hgg := Lib.hid hgg; replace hpl := Lib.hid hpl; replace P2 := Lib.hid P2; replace hR3 := Lib.hid hR3
              go_wp2_with fail
              refine Calls.mono P2.out ?_
              rintro e w2 ⟨v', rfl, H7⟩
              clear P2
              replace H7 := Lib.hid H7
              go_wp2_with fail
              go_ret
              rw [hR3.out]
              exact ⟨v', rfl, H7.out⟩
            · simp at hk
          | cons x l' =>
            obtain ⟨k, hk, rfl, hx, hp2⟩ := least_is hp'.out hok'.out.up hi'.out
            have hL : L'.length = l'.length + 1 := hp'.out.length_eq
            obtain ⟨ga, cap, H2⟩ := refS_parts hst.out
            obtain ⟨z2, k2, f2⟩ := H2.box 0 rfl
            obtain ⟨b, off, rfl, hbb, hc⟩ := wait_at (St.rd (by omega) 1 H2 rfl) rfl (by omega)
            obtain ⟨e0, e1, e2⟩ := hc k hk
            rw [hx] at e0 e1 e2
            obtain ⟨x1, x2, x3⟩ := x
            simp only at e0 e1 e2
            have hq1 : (k : Int) < L'.length := by omega
            have hl9 : l'.length ≤ 100 ∧ pre.length ≤ 100 := by simp only [List.length_cons] at hpl; omega
            clear hc H2
            by_cases hq : x1 ≤ num
            · have q3 : decide (x1 ≤ num) = true := decide_eq_true hq
              have hR3 : R = ((pre ++ [(x1, x2)]) ++ (upM num x1 l').1, (upM num x1 l').2) := by rw [hR'.out, up_cons hq]; simp [dg]
              have H3 := refA_shut hp'.out hst.out
              have P2 := Calls.st_at 0 H3 rfl fun S h => rrel_any q c' (x1, x2, x3) l' hok'.out.up (by omega) _ S h
              have hok2 : Ok x1 l' := ⟨by have := (hok'.out.mem (x1, x2, x3) (by simp)).1; have := hok'.out.c0; simp only at *; omega, (hok'.out.mem (x1, x2, x3) (by simp)).2, fun y hy => ⟨(List.pairwise_cons.1 hok'.out.up).1 y hy, (hok'.out.mem y (List.mem_cons_of_mem _ hy)).2⟩, (List.pairwise_cons.1 hok'.out.up).2⟩
              replace hq := Lib.hid hq
              clear H3 hst hok' hR' hi' hp'
              replace hgg := Lib.hid hgg; replace hpl := Lib.hid hpl; replace hR3 := Lib.hid hR3; replace hL := Lib.hid hL; replace hx := Lib.hid hx; replace P2 := Lib.hid P2; replace hok2 := Lib.hid hok2
              go_wp2_with fail
              refine Calls.mono P2.out ?_
              rintro e w3 ⟨rfl, H4⟩
              clear P2 k2 f2 z2 e0 e1 e2
              have hpl2 := hpl.out
              simp only [List.length_cons] at hpl2
              replace H4 := Lib.hid H4; replace hp2 := Lib.hid hp2
              go_wp2_with (at_builtin; (refine wpList_appS rfl (.tmp 60) (.tmp 63) _ rfl 45 i0 _ 2 24 Try.underlying48 hi hz hz1 hz2 rfl (by omega) 1 _ pre.length (dgs pre) rfl H4.out rfl 1 1 [.int .i64 x1, .string x2] rfl rfl (by simp [Value.oneCell']) (by omega) (by omega) ?_; intro v5 w5 H5; replace H5 := Lib.hid H5))
              obtain ⟨L2, hp3, H6⟩ := refA_parts (H5.out.front 1 rfl)
              have H7 : St w S w5 [refS q x1 L2, rowA 2 v5 (pre.length + 1) (dgs pre ++ [Value.int IntKind.i64 x1, Value.string x2])] := H6
              obtain ⟨S1, hS1⟩ := H7.held 0 rfl
              have P3 := least_any q x1 L2 w5 S1 hS1 (by rw [hp3.length_eq]; omega)
              clear H4 H5 H6 hS1
              replace P3 := Lib.hid P3; replace H7 := Lib.hid H7; replace hp3 := Lib.hid hp3
              refine Calls.mono P3.out ?_
              rintro e w6 ⟨i2, rfl, hb6, hi2⟩
              have H8 := H7.out.thru hb6
              clear P3 H7
              replace H8 := Lib.hid H8; replace hi2 := Lib.hid hi2
              go_wp2_with fail
              go_roundg l'.length
              case measure => have := hgg.out; simp only [List.length_cons] at this; omega
              case rel =>
                refine ⟨pre ++ [(x1, x2)], l', x1, i2, L2, rfl, by omega, rfl, hok2, hR3, by rw [List.length_append]; simp only [List.length_cons, List.length_nil]; omega, hp3, hi2, Lib.hid ?_⟩
                rw [List.length_append, show dgs (pre ++ [(x1, x2)]) = dgs pre ++ [.int .i64 x1, .string x2] from (DockDg.encs_app _ _).symm]
                exact H8.out
            · have q3 : decide (x1 ≤ num) = false := decide_eq_false hq
              have hR3 := hR'.out
              rw [up_stop (fun y hy => by
                rcases List.mem_cons.1 hy with rfl | hy
                · simp only; omega
                · have := (List.pairwise_cons.1 hok'.out.up).1 y hy; simp only at this; omega)] at hR3
              have H6 := ((refA_shut hp'.out hst.out).arr [1, 0] rfl).all
              have P2 := ex_at 0 H6 rfl fun S1 h1 => rrun_any q c' ((x1, x2, x3) :: l') u7 pre hok'.out.up (by simp only [List.length_cons]; omega) (by omega) hok'.out.c0 hok'.out.c1 (fun y hy => (hok'.out.mem y hy).2) _ S1 h1
              replace hq := Lib.hid hq
              clear H6
              replace hgg := Lib.hid hgg; replace hpl := Lib.hid hpl; replace P2 := Lib.hid P2; replace hR3 := Lib.hid hR3; replace hL := Lib.hid hL; replace hx := Lib.hid hx
              go_wp2_with fail
              refine Calls.mono P2.out ?_
              rintro e w2 ⟨v', rfl, H7⟩
              clear P2
              replace H7 := Lib.hid H7
              go_wp2_with fail
              go_ret
              rw [hR3.out]
              exact ⟨v', rfl, H7.out⟩
end Go.Proofs.Ytiaefmmcakagpaa.Sift

/- The walk of Latest of the sift's answer. -/
namespace Go.Proofs.Ytiaefmmcakagpaa.Sift
set_option linter.unusedSimpArgs false
set_option linter.unusedVariables false
open Go Go.RowKit Go.Shelf Go.Proofs.Ytiaefmmcakagpaa
open Go.Proofs.Ytiaefmmcakagpaa.DockWait (El enc val encs encs_len encs_one encs_take encs_drop encs_app enc_len placed headV)
attribute [local irreducible] Calls

def lateV (l : List El) : Int := lateN (headV l).2.2 l
theorem lateN_ge : ∀ (l : List El) (a : Int), a ≤ lateN a l ∧ ∀ x ∈ l, x.2.2 ≤ lateN a l
  | [], a => ⟨Int.le_refl _, by simp⟩
  | y :: l, a => by
    obtain ⟨h1, h2⟩ := lateN_ge l (max a y.2.2)
    have e : lateN a (y :: l) = lateN (max a y.2.2) l := rfl
    rw [e]
    refine ⟨by omega, fun x hx => ?_⟩
    rcases List.mem_cons.1 hx with rfl | hx
    · omega
    · exact h2 x hx
theorem lateN_mem : ∀ (l : List El) (a : Int), lateN a l = a ∨ ∃ x ∈ l, lateN a l = x.2.2
  | [], a => .inl rfl
  | y :: l, a => by
    have e : lateN a (y :: l) = lateN (max a y.2.2) l := rfl
    rw [e]
    rcases lateN_mem l (max a y.2.2) with h | ⟨x, hx, h⟩
    · rw [h]
      by_cases hy : a ≤ y.2.2
      · exact .inr ⟨y, by simp, by omega⟩
      · exact .inl (by omega)
    · exact .inr ⟨x, List.mem_cons_of_mem _ hx, h⟩
theorem lateV_perm {L l : List El} (hp : L.Perm l) : lateV L = lateV l := by
  by_cases h0 : L = []
  · subst h0
    rw [hp.nil_eq]
  · have h1 : 0 < L.length := List.length_pos_iff.2 h0
    have h2 : 0 < l.length := by rw [← hp.length_eq]; exact h1
    have m1 := headV_mem h1
    have m2 := headV_mem h2
    obtain ⟨g1, g2⟩ := lateN_ge L (headV L).2.2
    obtain ⟨g3, g4⟩ := lateN_ge l (headV l).2.2
    have a1 : lateV L ≤ lateV l := by
      rcases lateN_mem L (headV L).2.2 with e | ⟨x, hx, e⟩
      · have := g4 _ (hp.mem_iff.1 m1); unfold lateV; omega
      · have := g4 _ (hp.mem_iff.1 hx); unfold lateV; omega
    have a2 : lateV l ≤ lateV L := by
      rcases lateN_mem l (headV l).2.2 with e | ⟨x, hx, e⟩
      · have := g2 _ (hp.mem_iff.2 m2); unfold lateV; omega
      · have := g2 _ (hp.mem_iff.2 hx); unfold lateV; omega
    omega
theorem lateV_snoc {l : List El} (h : l ≠ []) (x : El) : lateV (l ++ [x]) = max (lateV l) x.2.2 := by
  cases l with
  | nil => exact absurd rfl h
  | cons y l => unfold lateV; rw [lateN_snoc]; rfl
set_option maxRecDepth 100000 in
set_option maxHeartbeats 1000000 in
theorem rlatest_any (q : Nat) (c : Int) (l : List El) (hl : l.length ≤ 100) (w : World) (S : Nat → Prop) (h : (refA q c l).holds w S) :
    Calls Try.prog 30 #[.pointer (some ⟨q, 0, none⟩)] w (Ret w (.tuple #[.int .i64 (lateM l).1, .bool (lateM l).2])) := by
  obtain ⟨L, hp, H0⟩ := refA_parts (St.start (Sep.one h))
  have hL : L.length = l.length := hp.length_eq
  have hL9 : L.length ≤ 100 := by omega
  obtain ⟨ga, cap, H2⟩ := refS_parts H0
  have B := H2.box 0 rfl
  obtain ⟨z0, k0, f0⟩ := id B
  have R0 := St.rd (by omega) 1 H2 rfl
  have hT : lateM l = (lateV L, decide (0 < L.length)) := by
    rw [lateV_perm hp, hL]
    cases l with
    | nil => rfl
    | cons x l => simp [lateM, lateV]
  rw [hT]
  clear h H2 H0 hp hT hL hl
  replace B := Lib.hid B; replace R0 := Lib.hid R0
  go_enter Try.func30, Try.ntmps30
  go_wp2_with fail
  go_loopg [4, 5] L.length (fun g v4 v5 wr => ∃ j : Nat, j ≤ L.length ∧ g = L.length - j ∧ v5 = .int .i64 j ∧ v4 = .int .i64 (lateV (L.take j)) ∧ Below w.heap.size w wr)
  case atStart => exact ⟨0, by omega, by omega, rfl, rfl, Below.refl _ _⟩
  case round =>
    obtain ⟨j, hj, hg, rfl, rfl, hbw⟩ := hrel
    obtain ⟨z2, k2, f2⟩ := Box.below B.out hbw
    clear k0 f0 z0
    by_cases hlt : j < L.length
    · obtain ⟨b, off, rfl, hb, hc⟩ := wait_at (R0.out.below hbw) rfl (by omega)
      obtain ⟨e0, e1, e2⟩ := hc j hlt
      clear hc
      have t1 : (0 : Int) ≤ j ∧ (j : Int) < L.length := ⟨by omega, by omega⟩
      have hsn : j ≠ 0 → lateV (L.take (j + 1)) = max (lateV (L.take j)) L[j].2.2 := fun hj0 => by
        rw [List.take_succ_eq_append_getElem hlt, lateV_snoc]
        intro e
        have := congrArg List.length e
        rw [List.length_take, List.length_nil] at this
        omega
      have hs0 : j = 0 → lateV (L.take (j + 1)) = L[j].2.2 := fun hj0 => by
        subst hj0
        rw [List.take_succ_eq_append_getElem hlt, List.take_zero, List.nil_append]
        unfold lateV
        simp [headV, lateN]
      generalize lateV (L.take j) = a at *
      generalize L[j] = x at *
      obtain ⟨x1, x2, x3⟩ := x
      simp only at e0 e1 e2 hsn hs0
      by_cases h0 : j = 0
      · have q0 : decide ((j : Int) = 0) = true := decide_eq_true (by omega)
        have q0' : ((j : Int) == 0) = true := by simp; omega
        have hs := hs0 h0
        replace h0 := Lib.hid h0; replace hg := Lib.hid hg; replace hs := Lib.hid hs; replace hsn := Lib.hid hsn; replace hs0 := Lib.hid hs0
        go_wp2_with fail
        go_roundg (L.length - (j + 1))
        case measure => have := hg.out; omega
        case rel => exact ⟨j + 1, by omega, rfl, by go_num, by rw [hs.out], hbw⟩
      · have q0 : decide ((j : Int) = 0) = false := decide_eq_false (by omega)
        have q0' : ((j : Int) == 0) = false := by simp; omega
        have hs := hsn h0
        by_cases hq : a < x3
        · have q1 : decide (a < x3) = true := decide_eq_true hq
          rw [show max a x3 = x3 by omega] at hs
          replace h0 := Lib.hid h0; replace hg := Lib.hid hg; replace hs := Lib.hid hs; replace hsn := Lib.hid hsn; replace hs0 := Lib.hid hs0; replace hq := Lib.hid hq
          go_wp2_with fail
          go_roundg (L.length - (j + 1))
          case measure => have := hg.out; omega
          case rel => exact ⟨j + 1, by omega, rfl, by go_num, by rw [hs.out], hbw⟩
        · have q1 : decide (a < x3) = false := decide_eq_false hq
          rw [show max a x3 = a by omega] at hs
          replace h0 := Lib.hid h0; replace hg := Lib.hid hg; replace hs := Lib.hid hs; replace hsn := Lib.hid hsn; replace hs0 := Lib.hid hs0; replace hq := Lib.hid hq
          go_wp2_with fail
          go_roundg (L.length - (j + 1))
          case measure => have := hg.out; omega
          case rel => exact ⟨j + 1, by omega, rfl, by go_num, by rw [hs.out], hbw⟩
    · have hj2 : j = L.length := by omega
      rw [hj2, List.take_length]
      clear hj2
      obtain ⟨hd, hd2⟩ : ∃ hd, decide ((0 : Int) < (L.length : Int)) = hd := ⟨_, rfl⟩
      have hd3 : decide (0 < L.length) = hd := by rw [← hd2]; congr 1; simp only [eq_iff_iff]; omega
      rw [hd3]
      replace hg := Lib.hid hg; replace hd3 := Lib.hid hd3
      go_wp2_with fail
      refine wp_region_near (by kernel_rfl) (by kernel_rfl) ?_
      intro hs
      repeat (go_big_quiet_step (fail))
      refine wpQuiet_nil ?_
      clear hs
      intro w2 hb2
      go_wp2_with fail
      go_ret2
      exact Ret.mk rfl (by repeat (first | with_reducible exact Below.refl _ _ | (with_reducible refine Below.al ?_) | (with_reducible refine Below.drew ?_) | (with_reducible refine Below.set ?_ (by first | (simp; done) | omega | (simp; omega))) | (with_reducible refine Below.thru ?_ (by assumption)) | (with_reducible refine Below.chg ?_ (by assumption) (by first | (simp; done) | omega | (simp; omega)))))
end Go.Proofs.Ytiaefmmcakagpaa.Sift

/- The walk of SiftDoes: any datagrams, that wait till any times, are kept and released as the chapter says. -/
namespace Go.Proofs.Ytiaefmmcakagpaa.Sift
set_option linter.unusedSimpArgs false
set_option linter.unusedVariables false
open Go Go.RowKit Go.Shelf Go.Proofs.Ytiaefmmcakagpaa
open Go.Proofs.Ytiaefmmcakagpaa.DockWait (El enc val encs dockA dock_open dock_parts dock_shut placed headV)
attribute [local irreducible] Calls

theorem put_none (d : Dg) (till : Int) (w : World) : Calls Try.prog 22 #[.pointer none, .agg #[.int .i64 d.1, .string d.2], .int .i64 till] w (Ret w (.tuple #[.int .i64 2, .slice none 0 0])) := by
  have P := fun w => fits_none d.1 w
  obtain ⟨d1, d2⟩ := d
  simp only at P ⊢
  replace P := Lib.hid P
  go_enter Try.func22, Try.ntmps22
  go_wp2_with fail
  refine Calls.mono (P.out _) ?_
  rintro e w1 ⟨rfl, hb1⟩
  have z1 := Below.size hb1; try simp only [World.size_alloc, World.size_setCell, World.size_drew] at z1
  go_wp2_with fail
  go_ret2
  exact Ret.mk rfl (by repeat (first | with_reducible exact Below.refl _ _ | (with_reducible refine Below.al ?_) | (with_reducible refine Below.drew ?_) | (with_reducible refine Below.set ?_ (by first | (simp; done) | omega | (simp; omega))) | (with_reducible refine Below.thru ?_ (by assumption)) | (with_reducible refine Below.chg ?_ (by assumption) (by first | (simp; done) | omega | (simp; omega)))))
theorem cursor_st {W w : World} {S0 : Nat → Prop} {s : Nat} {c : Int} {l : List El} {r : List Asn} (H : St W S0 w (siftA s c l :: r)) : Calls Try.prog 25 #[.pointer (some ⟨s, 0, none⟩)] w (Ret w (.int .i64 c)) := by
  obtain ⟨S1, hS1⟩ := H.held 0 rfl
  exact cursor_any s c l w S1 hS1
theorem len_st {W w : World} {S0 : Nat → Prop} {s : Nat} {c : Int} {l : List El} {r : List Asn} (H : St W S0 w (siftA s c l :: r)) : Calls Try.prog 24 #[.pointer (some ⟨s, 0, none⟩)] w (Ret w (.int .i64 l.length)) := by
  obtain ⟨S1, hS1⟩ := H.held 0 rfl
  exact len_any s c l w S1 hS1

set_option maxRecDepth 200000 in
set_option maxHeartbeats 4000000 in
theorem does_walk (a : Option Addr) (n cap : Nat) (w : World) (h0 : Fits w (.slice 4 (.cons 1 (.int .i64) (.cons 1 (.int .i64) (.cons 2 (.cons 1 (.int .i64) (.cons 1 .str .nil)) .nil)))) [.slice a n cap]) :
    Calls Try.prog 5 #[.slice a n cap] w (Ret w (.bool true)) := by
  obtain ⟨hn, _, ops, hl, hgood, hL⟩ := ops_in h0
  have PG := fun w' (hb : Below w.heap.size w w') => great_any ops n hl hn a cap w' (hL.below hb) (fun x hx => (hgood x hx).2.2)
  clear h0
  replace hl := Lib.hid hl; replace hL := Lib.hid hL; replace hgood := Lib.hid hgood; replace PG := Lib.hid PG
  go_enter Try.func5, Try.ntmps5
  go_wp2_with fail
  refine Calls.mono (works_law _) ?_
  rintro e w1 ⟨rfl, hb1⟩
  have z1 := Below.size hb1; try simp only [World.size_alloc, World.size_setCell, World.size_drew] at z1
  go_wp2_with fail
  refine Calls.mono (PG.out w1 hb1) ?_
  rintro e w2 ⟨gb, rfl, hb2, hgn⟩
  clear PG
  cases gb with
  | true =>
    clear hgn
    go_wp2_with fail
    go_ret
    exact Ret.mk rfl (Below.thru hb1 hb2)
  | false =>
    have hn150 : n ≤ 150 := hgn rfl
    clear hgn
    have hbw2 : Below w.heap.size w w2 := Below.thru hb1 hb2
    clear hb1 hb2
    go_wp2_with fail
    refine Calls.mono (new_any _) ?_
    rintro e w3 ⟨s, rfl, H3⟩
    have H4 : St w none0 _ [siftA s 0 [], refA w3.heap.size 0 []] := (refA_shut (List.Perm.refl []) (refS_shut (L := []) rfl ((((((St.zero w).thru hbw2).add H3).row_nil (size := 3)).alloc [.slice none 0 0, .int .i64 0] 55)))).arr [1, 0] rfl
    clear H3 hbw2
    replace H4 := Lib.hid H4
    go_wp2_with fail
    go_loopg [6, 7, 8, 9, 10, 11, 12, 13, 14, 15, 16, 17, 18, 19, 20] n (fun g v6 _ _ _ _ _ _ _ _ _ _ _ _ _ _ wr => ∃ (i : Nat) (c : Int) (l : List El), i ≤ n ∧ Hid (g = n - i) ∧ v6 = .int .i64 i ∧ l.length ≤ 32 ∧ Hid (Ok c l) ∧ Hid (St w none0 wr [siftA s c l, refA w3.heap.size c l]))
    case atStart => exact ⟨0, 0, [], by omega, Lib.hid rfl, rfl, by simp, Lib.hid ⟨by omega, by unfold top; omega, by simp, List.Pairwise.nil⟩, H4⟩
    case round =>
      obtain ⟨i, c, l, hi, hg, rfl, hl32, hok, hst⟩ := hrel
      clear H4
      generalize w3.heap.size = q at *
      by_cases hlt : i < n
      · have hil : i < ops.length := by have := hl.out; omega
        obtain ⟨b, off, rfl, hb, hc⟩ := ops_at (hL.out.of_st hst.out) hl.out (by omega)
        obtain ⟨e0, e1, e2, e3⟩ := hc i hil
        clear hc
        generalize ops[i] = o at *
        obtain ⟨ok, ot, on, od⟩ := o
        simp only at e0 e1 e2 e3
        have H1 : St w none0 _ [siftA s c l, refA q c l, cellA wr.heap.size [.int .i64 ok, .int .i64 ot, .int .i64 on, .string od]] := (hst.out.alloc [.int .i64 ok, .int .i64 ot, .int .i64 on, .string od] 47).arr [1, 2, 0] rfl
        obtain ⟨z1, k1, f1⟩ := H1.box 2 rfl
        clear hst
        replace H1 := Lib.hid H1
        go_upto_if 40 with fail
        go_cut [8, 9, 10, 11, 12, 13, 14] (fun v8 _ _ _ _ _ _ wx => ∃ (c' : Int) (l' : List El), v8 = .bool true ∧ l'.length ≤ 32 ∧ Hid (Ok c' l') ∧ Hid (St w none0 wx [siftA s c' l', refA q c' l']))
        case first =>
          by_cases hk : ok < 3
          · have q1 : decide (ok < 3) = true := decide_eq_true hk
            have P := ex_at 0 H1.out rfl fun S h => put_any s c l (on, od) ot hl32 hok.out.c0 hok.out.c1 hok.out.pos _ S h
            have P2 := fun w' {r : List Asn} (H : St w none0 w' (refA q c l :: r)) => ex_at 0 H rfl fun S h => rput_any q c l (on, od) ot hok.out hl32 _ S h
            have hcase := put_case (on, od) ot hok.out hl32
            have hok2 : Ok (putM c l (on, od) ot).2.1 (putM c l (on, od) ot).2.2 ∧ (putM c l (on, od) ot).2.2.length ≤ 32 ∧ (putM c l (on, od) ot).1.2.length ≤ 1000 := by
              have hlay := lay_len (on, od) ot l
              generalize putM c l (on, od) ot = R at *
              cases hcase with
              | no _ _ e => rw [e]; exact ⟨hok.out, hl32, by simp⟩
              | yes k hf _ hr _ hs => exact ⟨(lay_ok (on, od) ot hok.out hf).rel hr, hs, by rw [show R.1.2 = _ from hr.out, List.length_map, List.length_take]; omega⟩
            generalize putM c l (on, od) ot = R at *
            obtain ⟨⟨what, ds⟩, c', l'⟩ := R
            simp only at P P2 hok2
            clear hcase
            replace P := Lib.hid P; replace P2 := Lib.hid P2; replace hok2 := Lib.hid hok2
            go_wp2_with fail
            refine Calls.mono P.out ?_
            rintro e w4 ⟨m, rfl, H2⟩
            clear P
            obtain ⟨z2, k2, f2⟩ := H2.box 3 rfl
            have P3 := P2.out w4 (H2.front 2 rfl)
            clear H2 P2
            replace P3 := Lib.hid P3
            go_wp2_with fail
            refine Calls.mono P3.out ?_
            rintro e w5 ⟨m2, rfl, H5⟩
            clear P3 k2 f2 z2
            obtain ⟨a1, c1, rfl, _⟩ := St.slice (by omega) 0 H5 rfl
            obtain ⟨a2, c2, rfl, _⟩ := St.slice (by omega) 2 H5 rfl
            obtain ⟨z2, k2, f2⟩ := H5.box 4 rfl
            replace H5 := Lib.hid H5
            go_wp2_with fail
            refine Calls.mono (put_none (on, od) ot _) ?_
            rintro e w6 ⟨rfl, hb6⟩
            have z6 := Below.size hb6; try simp only [World.size_alloc, World.size_setCell, World.size_drew] at z6
            have H6 := H5.out.thru hb6
            have R1 := St.rd (by omega) 0 H6 rfl
            have R2 := St.rd (by omega) 2 H6 rfl
            have PS := same_any ds ds.length rfl (by have := hok2.out.2.2; unfold maxLen; omega) a2 c2 a1 c1 w6 R2 R1
            have t0 : (what == what) = true := by simp
            have t1 : decide (what = what) = true := by simp
            clear H5 R1 R2
            replace H6 := Lib.hid H6; replace PS := Lib.hid PS
            go_wp2_with fail
            refine Calls.mono (PS.out) ?_
            rintro e w7 ⟨rfl, hb7⟩
            have z7 := Below.size hb7; try simp only [World.size_alloc, World.size_setCell, World.size_drew] at z7
            have H7 := H6.out.thru hb7
            clear PS H6
            replace H7 := Lib.hid H7
            go_wp2_with fail
            go_meet
            exact ⟨c', l', rfl, hok2.out.2.1, Lib.hid hok2.out.1, Lib.hid ((H7.out.arr [3, 1, 0, 2, 4] rfl).drops 2)⟩
          · have q1 : decide (ok < 3) = false := decide_eq_false hk
            have HC1 : St w none0 _ [cellA wr.heap.size [.int .i64 ok, .int .i64 ot, .int .i64 on, .string od]] := (H1.out.arr [2, 0, 1] rfl).drops 1
            have hcl : ∀ (s : Cls w none0 [cellA wr.heap.size [.int .i64 ok, .int .i64 ot, .int .i64 on, .string od]]) (o : Nat), s.it.cell? ⟨wr.heap.size, o, none⟩ = [Value.int .i64 ok, .int .i64 ot, .int .i64 on, .string od][o]? := fun s => (s.st.box 0 rfl).cells
            have P := ex_at 0 H1.out.drew rfl fun S h => due_any s c l ot (by omega) hok.out.c0 hok.out.c1 hok.out.pos _ S h
            have P2 := fun w' {r : List Asn} (H : St w none0 w' (refA q c l :: r)) => ex_at 0 H rfl fun S h => rdue_any q c l ot hok.out (by omega) _ S h
            obtain ⟨k, hr⟩ := due_rel c l ot hok.out.up
            have hok2 : Ok (dueM c l ot).2.1 (dueM c l ot).2.2 ∧ (dueM c l ot).2.2.length ≤ 32 ∧ (dueM c l ot).1.length ≤ 1000 := ⟨hok.out.rel hr, by rw [hr.rest, List.length_drop]; omega, by rw [hr.out, List.length_map, List.length_take]; omega⟩
            clear hr
            generalize dueM c l ot = R at *
            obtain ⟨ds, c', l'⟩ := R
            simp only at P P2 hok2
            replace P := Lib.hid P; replace P2 := Lib.hid P2; replace hok2 := Lib.hid hok2; replace HC1 := Lib.hid HC1
            go_wp2_with fail
            haveI := St.ne HC1.out
            refine wp_region_madeC HC1.out [0, 1, 2, 4, 5, 6] [true, true, true, false, true, true, true, false, false, false, false, false, false, false, false, false, false, false] 12 #[true, true, true, false, true, true, true, false, false, false, false, false, false, false, false, false, false, false] (by kernel_rfl) rfl (by kernel_rfl) (by kernel_rfl) rfl (by kernel_rfl) (by kernel_rfl) (by intro c a a' w e h; obtain ⟨t, d⟩ := a; obtain ⟨t', d'⟩ := a'; obtain rfl : d = d' := e; exact h) ?_
            simp only [pickB]
            repeat (go_big_quiet_step (fail))
            refine wpQuiet_nil ?_
            refine held_one (i := 3) (by kernel_rfl) fun K hK => ?_
            simp only [List.drop_succ_cons, List.drop_zero, List.take_succ_cons, List.take_zero]
            go_wp2_with fail
            refine Calls.mono P.out ?_
            rintro e w4 ⟨m, rfl, H4⟩
            have HC4 : St w none0 w4 [cellA wr.heap.size [.int .i64 ok, .int .i64 ot, .int .i64 on, .string od]] := (H4.arr [3, 1, 2, 0] rfl).drops 1
            have P3 := P2.out w4 (H4.front 2 rfl)
            clear P P2 H4
            replace HC4 := Lib.hid HC4; replace P3 := Lib.hid P3
            go_wp2_with fail
            refine hK _ _ HC4.out ?_
            clear hK K
            refine held_one (i := 7) (by kernel_rfl) fun K hK => ?_
            simp only [List.drop_succ_cons, List.drop_zero, List.take_succ_cons, List.take_zero]
            go_wp2_with fail
            refine Calls.mono P3.out ?_
            rintro e w5 ⟨m2, rfl, H5⟩
            have HC5 : St w none0 w5 [cellA wr.heap.size [.int .i64 ok, .int .i64 ot, .int .i64 on, .string od]] := (H5.arr [4, 0, 1, 2, 3] rfl).drops 1
            obtain ⟨a1, c1, rfl, _⟩ := St.slice (by omega) 0 H5 rfl
            obtain ⟨a2, c2, rfl, _⟩ := St.slice (by omega) 2 H5 rfl
            have PS := same_any ds ds.length rfl (by have := hok2.out.2.2; unfold maxLen; omega) a2 c2 a1 c1 w5 (St.rd (by omega) 2 H5 rfl) (St.rd (by omega) 0 H5 rfl)
            clear P3
            replace H5 := Lib.hid H5; replace HC5 := Lib.hid HC5; replace PS := Lib.hid PS
            go_wp2_with fail
            refine hK _ _ HC5.out ?_
            clear hK K
            refine held_one (i := 8) (by kernel_rfl) fun K hK => ?_
            simp only [List.drop_succ_cons, List.drop_zero, List.take_succ_cons, List.take_zero]
            go_wp2_with fail
            refine Calls.mono PS.out ?_
            rintro e w6 ⟨rfl, hb6⟩
            have H6 := Lib.hid (H5.out.thru hb6)
            have HC6 := Lib.hid (HC5.out.thru hb6)
            clear PS H5
            go_wp2_with fail
            refine hK _ _ HC6.out ?_
            clear hK K
            haveI := St.ne HC6.out
            refine calmC HC6.out [9, 10, 11, 12] [false, false, false, false, false, false, false, false, false, true, true, true, true, false, false, false, false, false] 5 9 #[true, true, true, true, true, true, true, true, true, false, false, false, false, false, false, false, false, false] #[true, true, true, true, true, true, true, true, true, true, true, true, true, false, false, false, false, false] rfl (by kernel_rfl) (by kernel_rfl) rfl (by kernel_rfl) (by kernel_rfl) (by intro c a a' w e h; obtain ⟨t, d⟩ := a; obtain ⟨t', d'⟩ := a'; obtain rfl : d = d' := e; exact h) ?_
            simp only [pickB]
            repeat (go_big_quiet_step (fail))
            refine wpQuiet_nil ?_
            refine held_one (i := 13) (by kernel_rfl) fun K hK => ?_
            simp only [List.drop_succ_cons, List.drop_zero, List.take_succ_cons, List.take_zero]
            go_wp2_with fail
            refine Calls.mono (due_none ot _) ?_
            rintro e w7 ⟨rfl, hb7⟩
            have H7 := Lib.hid (H6.out.thru hb7)
            have HC7 := Lib.hid (HC6.out.thru hb7)
            go_wp2_with fail
            refine hK _ _ HC7.out ?_
            clear hK K
            haveI := St.ne HC7.out
            refine calmC HC7.out [14, 15, 16, 17] [false, false, false, false, false, false, false, false, false, false, false, false, false, false, true, true, true, true] 0 4 #[true, true, true, true, true, true, true, true, true, true, true, true, true, true, false, false, false, false] #[true, true, true, true, true, true, true, true, true, true, true, true, true, true, true, true, true, true] rfl (by kernel_rfl) (by kernel_rfl) rfl (by kernel_rfl) (by kernel_rfl) (by intro c a a' w e h; obtain ⟨t, d⟩ := a; obtain ⟨t', d'⟩ := a'; obtain rfl : d = d' := e; exact h) ?_
            simp only [pickB]
            repeat (go_big_quiet_step (fail))
            refine wpQuiet_nil ?_
            refine held_done (by kernel_rfl) ?_
            go_wp2_with fail
            go_meet
            exact ⟨c', l', rfl, hok2.out.2.1, Lib.hid hok2.out.1, Lib.hid ((H7.out.arr [3, 1, 0, 2, 4] rfl).drops 2)⟩
        case rest =>
          obtain ⟨c', l', rfl, hl', hok', hst⟩ := hcut
          clear H1 z1 k1 f1 hok e0 e1 e2 e3
          have P1 := Calls.st_at 0 hst.out rfl fun S h => latest_any s c' l' (by omega) _ S h
          have P2 := fun w' {r : List Asn} (H : St w none0 w' (refA q c' l' :: r)) => (by obtain ⟨S1, hS1⟩ := H.held 0 rfl; exact rlatest_any q c' l' (by omega) w' S1 hS1 : Calls Try.prog 30 #[.pointer (some ⟨q, 0, none⟩)] w' (Ret w' (.tuple #[.int .i64 (lateM l').1, .bool (lateM l').2])))
          generalize lateM l' = R at *
          obtain ⟨lv, lb⟩ := R
          simp only at P1 P2
          clear hst
          replace P1 := Lib.hid P1; replace P2 := Lib.hid P2
          go_wp2_with fail
          refine Calls.mono P1.out ?_
          rintro e w4 ⟨rfl, H4⟩
          have P3 := P2.out w4 (H4.front 1 rfl)
          clear P1 P2
          replace P3 := Lib.hid P3; replace H4 := Lib.hid H4
          go_wp2_with fail
          refine Calls.mono (P3.out) ?_
          rintro e w5 ⟨rfl, hb5⟩
          have z5 := Below.size hb5; try simp only [World.size_alloc, World.size_setCell, World.size_drew] at z5
          have H5 := Lib.hid (H4.out.thru hb5)
          clear P3 H4
          go_wp2_with fail
          refine Calls.mono (latest_none _) ?_
          rintro e w6 ⟨rfl, hb6⟩
          have z6 := Below.size hb6; try simp only [World.size_alloc, World.size_setCell, World.size_drew] at z6
          have H6 := H5.out.thru hb6
          clear H5
          obtain ⟨L, hp, H7⟩ := refA_parts (H6.front 1 rfl)
          obtain ⟨ra, rc, H8⟩ := refS_parts H7
          obtain ⟨z8, k8, f8⟩ := H8.box 0 rfl
          rw [hp.length_eq] at k8
          have H9 := H6
          have PC := fun (s : Near w6.heap.size w6) => cursor_st (H9.thruB (by simp) (Near.near s))
          have PL := fun (s : Near w6.heap.size w6) => len_st (H9.thruB (by simp) (Near.near s))
          have x0 : (c' != c') = false := by simp
          have x1 : ((l'.length : Int) != (l'.length : Int)) = false := by simp
          have x2 : (lv != lv) = false := by simp
          have x3 : (lb != lb) = false := by simp
          clear H7 H8 hp
          replace H6 := Lib.hid H6; replace H9 := Lib.hid H9; replace PC := Lib.hid PC; replace PL := Lib.hid PL
          go_wp2_with fail
          refine wp_region_near (by kernel_rfl) (by kernel_rfl) ?_
          intro hs
          repeat (go_big_quiet_step ((first | (go_at_call 25; exact Calls.near (by simp) (PC.out _)) | (go_at_call 25; exact Calls.near (by simp) (cursor_none _)) | (go_at_call 24; exact Calls.near (by simp) (PL.out _)) | (go_at_call 24; exact Calls.near (by simp) (len_none _)))))
          refine wpQuiet_nil ?_
          clear hs
          intro w9 hb9
          have H10 := H6.out.thruB (by simp) hb9
          clear H6 H9 PC PL
          replace H10 := Lib.hid H10
          go_wp2_with fail
          go_roundg (n - (i + 1))
          case measure => have := hg.out; omega
          case rel => exact ⟨i + 1, c', l', by omega, Lib.hid rfl, by go_num, hl', hok', H10⟩
      · go_wp2_with fail
        go_ret
        exact hst.out.ret rfl
end Go.Proofs.Ytiaefmmcakagpaa.Sift
