/- The walks of sift's fits and upTo. -/
import Derived.Test.YtiaefmmcakagpaaSiftRun
namespace Go.Proofs.Ytiaefmmcakagpaa.Sift
set_option linter.unusedSimpArgs false
set_option linter.unusedVariables false
open Go Go.RowKit Go.Shelf Go.Proofs.Ytiaefmmcakagpaa
open Go.Proofs.Ytiaefmmcakagpaa.DockWait (El enc val encs dockA dock_open dock_parts dock_shut)
attribute [local irreducible] Calls

def fitsM (c : Int) (l : List El) (num : Int) : Int × Bool := if num ≤ c then (2, false) else if l.any (fun x => x.1 == num) then (3, false) else if top < num then (4, false) else (1, true)
theorem fits_none (num : Int) (w : World) : Calls Try.prog 64 #[.pointer none, .int .i64 num] w (Ret w (.tuple #[.int .i64 2, .bool false])) := by
  go_enter Try.func64, Try.ntmps64
  go_wp2_with fail
  go_ret2
  exact Ret.mk rfl (by repeat (first | with_reducible exact Below.refl _ _ | (with_reducible refine Below.al ?_) | (with_reducible refine Below.drew ?_) | (with_reducible refine Below.set ?_ (by first | (simp; done) | omega | (simp; omega))) | (with_reducible refine Below.thru ?_ (by assumption)) | (with_reducible refine Below.chg ?_ (by assumption) (by first | (simp; done) | omega | (simp; omega)))))
set_option maxRecDepth 100000 in
theorem fits_any (s : Nat) (c : Int) (l : List El) (num : Int) (hl : l.length ≤ 100000) (w : World) (S : Nat → Prop) (h : (siftA s c l).holds w S) :
    Calls Try.prog 64 #[.pointer (some ⟨s, 0, none⟩), .int .i64 num] w (Fin w S (.tuple #[.int .i64 (fitsM c l num).1, .bool (fitsM c l num).2]) [siftA s c l]) := by
  have P := has_any s c l num hl w S h
  have H : St w S w [siftA s c l] := St.start (Sep.one h)
  obtain ⟨d, H1⟩ := sift_open h
  obtain ⟨z, k, f⟩ := H1.box 0 rfl
  obtain ⟨R, hR⟩ : ∃ R, R = fitsM c l num := ⟨_, rfl⟩
  rw [← hR]
  clear h H1
  unfold fitsM top at hR
  by_cases h1 : num ≤ c
  · have q1 : decide (num ≤ c) = true := decide_eq_true h1
    rw [if_pos h1] at hR
    subst hR
    replace P := Lib.hid P; replace H := Lib.hid H
    go_enter Try.func64, Try.ntmps64
    go_wp2_with fail
    go_ret2
    exact ⟨rfl, H.out⟩
  · have q1 : decide (num ≤ c) = false := decide_eq_false h1
    rw [if_neg h1] at hR
    cases h2 : (l.any fun x => x.1 == num) with
    | true =>
      rw [h2] at hR P
      simp only [if_pos] at hR
      subst hR
      replace P := Lib.hid P; replace H := Lib.hid H
      go_enter Try.func64, Try.ntmps64
      go_wp2_with fail
      refine Calls.mono P.out ?_
      rintro e w1 ⟨rfl, H1⟩
      clear P
      replace H1 := Lib.hid H1
      go_wp2_with fail
      go_ret2
      exact ⟨rfl, H1.out⟩
    | false =>
      rw [h2] at hR P
      simp only [Bool.false_eq_true, if_false] at hR
      by_cases h3 : (140737488355327 : Int) < num
      · have q3 : decide ((140737488355327 : Int) < num) = true := decide_eq_true h3
        rw [if_pos h3] at hR
        subst hR
        replace P := Lib.hid P; replace H := Lib.hid H
        go_enter Try.func64, Try.ntmps64
        go_wp2_with fail
        refine Calls.mono P.out ?_
        rintro e w1 ⟨rfl, H1⟩
        clear P
        replace H1 := Lib.hid H1
        go_wp2_with fail
        go_ret2
        exact ⟨rfl, H1.out⟩
      · have q3 : decide ((140737488355327 : Int) < num) = false := decide_eq_false h3
        rw [if_neg h3] at hR
        subst hR
        replace P := Lib.hid P; replace H := Lib.hid H
        go_enter Try.func64, Try.ntmps64
        go_wp2_with fail
        refine Calls.mono P.out ?_
        rintro e w1 ⟨rfl, H1⟩
        clear P
        replace H1 := Lib.hid H1
        go_wp2_with fail
        go_ret2
        exact ⟨rfl, H1.out⟩

theorem below_q (nb : Nat) (num : Int) (x : El) (w : World) (S : Nat → Prop) (h : (cellA nb [.int .i64 num]).holds w S) :
    Calls Try.prog 99 #[val x, .pointer (some ⟨nb, 0, none⟩)] w (Fin w S (.bool (decide (x.1 ≤ num))) [cellA nb [.int .i64 num]]) := by
  have H : St w S w [cellA nb [.int .i64 num]] := St.start (Sep.one h)
  obtain ⟨z, k, f⟩ := H.box 0 rfl
  obtain ⟨x1, x2, x3⟩ := x
  unfold val
  clear h
  replace H := Lib.hid H
  go_enter Try.func99, Try.ntmps99
  go_wp2_with fail
  go_ret
  exact ⟨rfl, H.out.skip _⟩
theorem outs_pure (p : El → Bool) : ∀ (l pre : List El), DockWait.outs (fun _ => p) pre l = l.filter p
  | [], _ => rfl
  | x :: l, pre => by
    simp only [DockWait.outs, List.filter_cons]
    rw [outs_pure p l]
    split <;> simp
theorem rests_pure (p : El → Bool) : ∀ (l pre : List El), DockWait.rests (fun _ => p) pre l = l.filter fun x => !p x
  | [], _ => rfl
  | x :: l, pre => by
    simp only [DockWait.rests, List.filter_cons]
    rw [rests_pure p l]
    by_cases h : p x = true <;> simp [h]
def dg (x : El) : Dg := (x.1, x.2.1)
def lastN (c : Int) (l : List El) : Int := l.foldl (fun _ x => x.1) c
/-- Those up to a number, and those right behind. -/
def upM (num c : Int) (l : List El) : List Dg × Int × List El :=
  ((l.filter fun x => decide (x.1 ≤ num)).map dg ++ (runM (l.filter fun x => !decide (x.1 ≤ num)) (lastN c (l.filter fun x => decide (x.1 ≤ num)))).1, (runM (l.filter fun x => !decide (x.1 ≤ num)) (lastN c (l.filter fun x => decide (x.1 ≤ num)))).2)

theorem lastN_snoc (c : Int) (l : List El) (x : El) : lastN c (l ++ [x]) = x.1 := by simp [lastN]
theorem lastN_bd {c : Int} {l : List El} (hc0 : 0 ≤ c) (hc1 : c ≤ top) (hb : ∀ x ∈ l, 0 < x.1 ∧ x.1 ≤ top) : 0 ≤ lastN c l ∧ lastN c l ≤ top := by
  unfold lastN
  induction l generalizing c with
  | nil => exact ⟨hc0, hc1⟩
  | cons x l ih =>
    have := hb x (by simp)
    simp only [List.foldl_cons]
    exact ih (c := x.1) (by omega) this.2 fun y hy => hb y (List.mem_cons_of_mem _ hy)
set_option maxRecDepth 100000 in
set_option maxHeartbeats 1000000 in
theorem upTo_any (s : Nat) (c : Int) (l : List El) (num : Int) (hl : l.length ≤ 100000) (hc0 : 0 ≤ c) (hc1 : c ≤ top) (hb : ∀ x ∈ l, 0 < x.1 ∧ x.1 ≤ top) (w : World) (S : Nat → Prop) (h : (siftA s c l).holds w S) :
    Calls Try.prog 70 #[.pointer (some ⟨s, 0, none⟩), .int .i64 num] w (fun e w' => ∃ v', e = .returned v' ∧ St w S w' [rowA 2 v' (upM num c l).1.length (dgs (upM num c l).1), siftA s (upM num c l).2.1 (upM num c l).2.2]) := by
  obtain ⟨i0, hi, hz, hz1, hz2⟩ := info_parts DelDg.el_info
  obtain ⟨d, H⟩ := sift_open h
  obtain ⟨z, k, f⟩ := H.box 0 rfl
  have H0 := H.alloc [.int .i64 num] 3
  have H1 := H0.arr [1, 2, 0] rfl
  have H2 := (H1.front 1 rfl).arr [0, 2, 1] rfl
  have H3 : St w S _ (sepA [dockA d 33 l, cellA w.heap.size [.int .i64 num]] :: [cellA s [.pointer (some ⟨d, 0, none⟩), .int .i64 c]]) := St.join [_, _] [_] H2
  obtain ⟨S3, hS3, _, back⟩ := H3.at 0 rfl
  have P := DockWait.sweep_any d 33 l hl 99 #[.pointer (some ⟨w.heap.size, 0, none⟩)] (enters_of Try.func99 (by kernel_rfl) rfl) (fun _ x => decide (x.1 ≤ num)) (fun _ => cellA w.heap.size [.int .i64 num])
    (fun pre x suf w' S _ h => below_q w.heap.size num x w' S h) _ S3 hS3
  rw [outs_pure, rests_pure] at P
  obtain ⟨R, hR⟩ : ∃ R, R = upM num c l := ⟨_, rfl⟩
  rw [← hR]
  unfold upM at hR
  clear h H H0 H1 H2 H3 hS3
  replace P := Lib.hid P; replace back := Lib.hid back; replace hb := Lib.hid hb; replace hR := Lib.hid hR
  go_enter Try.func70, Try.ntmps70
  go_wp2_with fail
  refine Calls.mono P.out ?_
  rintro e w1 ⟨ov, rfl, hst⟩
  have H4 := back.out _ _ hst
  clear P back hst
  have hb1 : ∀ x ∈ l.filter (fun x => decide (x.1 ≤ num)), 0 < x.1 ∧ x.1 ≤ top := fun x hx => hb.out x ((List.mem_filter.1 hx).1)
  have hb2 : ∀ x ∈ l.filter (fun x => !decide (x.1 ≤ num)), 0 < x.1 ∧ x.1 ≤ top := fun x hx => hb.out x ((List.mem_filter.1 hx).1)
  have hl1 : (l.filter (fun x => decide (x.1 ≤ num))).length ≤ 100000 := Nat.le_trans (List.length_filter_le _ _) hl
  have hl2 : (l.filter (fun x => !decide (x.1 ≤ num))).length ≤ 100000 := Nat.le_trans (List.length_filter_le _ _) hl
  replace hR := hR.out
  generalize l.filter (fun x => decide (x.1 ≤ num)) = O at *
  generalize l.filter (fun x => !decide (x.1 ≤ num)) = T at *
  simp only [List.cons_append, List.nil_append, List.eraseIdx_cons_zero] at H4
  have H5 : St w S w1 [rowA 3 ov O.length (encs O), dockA d 33 T, cellA s [.pointer (some ⟨d, 0, none⟩), .int .i64 c]] := H4.drop 2 rfl
  clear H4 hb
  obtain ⟨oa, oc, rfl, hon, hocm, hoa0, hoR⟩ := St.slice (by omega) 0 H5 rfl
  clear hoa0 hoR
  have H6 : St w S w1 _ := H5.row_nil (size := 2)
  clear H5 k f z
  replace H6 := Lib.hid H6; replace hR := Lib.hid hR; replace hb1 := Lib.hid hb1; replace hb2 := Lib.hid hb2
  go_wp2_with fail
  go_loopg [5, 7, 15] O.length (fun g v5 _ i wr => ∃ j : Nat, j ≤ O.length ∧ g = O.length - j ∧ i = .int .i64 j ∧
    St w S wr [rowA 2 v5 ((O.take j).map dg).length (dgs ((O.take j).map dg)), rowA 3 (.slice oa O.length oc) O.length (encs O), dockA d 33 T, cellA s [.pointer (some ⟨d, 0, none⟩), .int .i64 (lastN c (O.take j))]])
  case atStart => exact ⟨0, by omega, by omega, rfl, H6.out⟩
  case round =>
    obtain ⟨j, hj, hg, rfl, hst⟩ := hrel
    clear H6
    by_cases hlt : j < O.length
    · have hRd := St.rd (by omega) 1 hst rfl
      obtain ⟨b, off, rfl, hbb, hc⟩ := Rd.rows DockWait.enc_len (by omega) hRd rfl (by omega)
      obtain ⟨x, hx⟩ : ∃ x, x = O[j] := ⟨_, rfl⟩
      have e0 := hc j hlt
      rw [← hx] at e0
      have e00 := e0 0 _ rfl; try simp only [Nat.add_zero] at e00
      have e01 := e0 1 _ rfl; try simp only [Nat.add_zero] at e01
      have e02 := e0 2 _ rfl; try simp only [Nat.add_zero] at e02
      have htk : O.take (j + 1) = O.take j ++ [x] := by rw [hx, List.take_succ_eq_append_getElem hlt]
      obtain ⟨x1, x2, x3⟩ := x
      have H1 := hst.alloc [.int .i64 x1, .string x2, .int .i64 x3] 98
      obtain ⟨z1, k1, f1⟩ := H1.box 0 rfl
      obtain ⟨z2, k2, f2⟩ := hst.box 3 rfl
      obtain ⟨z4, k4, f4⟩ := H1.box 4 rfl
      have hne := H1.ne_cells 0 4 rfl rfl (by decide)
      have H2 := (hst.set 3 rfl 1 (.int .i64 x1) (by simp)).alloc [.int .i64 x1, .string x2, .int .i64 x3] 98
      simp only [List.set_cons_succ, List.set_cons_zero, List.eraseIdx_cons_succ, List.eraseIdx_cons_zero] at H2
      have hsz : (wr.setCell ⟨s, 1, none⟩ (.int .i64 x1)).heap.size = wr.heap.size := by simp
      rw [hsz] at H2
      clear hsz
      obtain ⟨z3, k3, f3⟩ := H2.box 0 rfl
      have hml : ((O.take j).map dg).length ≤ 100000 := by rw [List.length_map, List.length_take]; omega
      clear hc hRd hst e0 hx
      replace H1 := Lib.hid H1; replace H2 := Lib.hid H2; replace htk := Lib.hid htk; replace hg := Lib.hid hg
      go_wp2_with (at_builtin; (refine wpList_appS rfl (.tmp 25) (.tmp 28) _ rfl 45 i0 _ 2 24 Try.underlying48 hi hz hz1 hz2 rfl (by omega) 2 _ ((O.take j).map dg).length (dgs ((O.take j).map dg)) rfl H2.out rfl 1 1 [.int .i64 x1, .string x2] rfl rfl (by simp [Value.oneCell']) (by omega) (by omega) ?_; intro v5 w5 H5; replace H5 := Lib.hid H5))
      go_roundg (O.length - (j + 1))
      case measure => have := hg.out; omega
      case rel =>
        refine ⟨j + 1, by omega, rfl, by go_num, ?_⟩
        rw [htk.out, List.map_append, lastN_snoc, List.length_append, show dgs ((O.take j).map dg ++ [(x1, x2, x3)].map dg) = dgs ((O.take j).map dg) ++ [.int .i64 x1, .string x2] from (DockDg.encs_app _ _).symm]
        exact (H5.out.drop 1 rfl).arr [0, 2, 3, 1] rfl
    · obtain rfl : j = O.length := by omega
      rw [List.take_length] at hst
      have hla := lastN_bd hc0 hc1 hb1.out
      have H1 := sift_shut ((hst.drop 1 rfl).arr [2, 1, 0] rfl)
      have H2 : St w S wr [rowA 2 u5 (O.map dg).length (dgs (O.map dg)), siftA s (lastN c O) T] := H1.arr [1, 0] rfl
      obtain ⟨S4, hS4, _, back⟩ := H2.all.at 0 rfl
      have P := run_any s (lastN c O) T u5 (O.map dg) hl2 (by rw [List.length_map]; exact hl1) hla.1 hla.2 (fun x hx => (hb2.out x hx).2) wr S4 hS4
      clear H1 H2 hst hS4 hg
      replace P := Lib.hid P; replace back := Lib.hid back
      go_wp2_with fail
      refine Calls.mono P.out ?_
      rintro e w2 ⟨v', rfl, H3⟩
      have H4 := back.out _ _ H3
      clear P back H3
      replace H4 := Lib.hid H4
      go_wp2_with fail
      go_ret
      rw [hR.out]
      exact ⟨_, rfl, H4.out⟩
end Go.Proofs.Ytiaefmmcakagpaa.Sift
