/- The walks of Same and Great over options. -/
import Derived.Test.YtpajedpkdfacoaaOptsCheck2
import Derived.Test.YtpajedpkdfacoaaFits
namespace Go.Proofs.Ytpajedpkdfacoaa.Opts
set_option linter.unusedSimpArgs false
set_option linter.unusedVariables false
open Go Go.RowKit Go.Proofs.Ytpajedpkdfacoaa
attribute [local irreducible] Calls

theorem arr_ext {a b : ByteArray} (h : a.data.toList = b.data.toList) : a = b := by
  cases a with | mk a => cases b with | mk b =>
    congr 1
    exact Array.toList_inj.1 h
def eqO (a : Int) (s : ByteArray) (b : Int) (t : ByteArray) : Bool := a == b && s.toList == t.toList
theorem eql_op (w : World) (a b : Int) (s t : ByteArray) : (binOp .eql 26 (.agg #[.int .i64 a, .string s]) (.agg #[.int .i64 b, .string t])).run Try.prog w = .ok (.bool (eqO a s b t)) w := by
  have h1 : Try.prog.stoodInHeld 26 = false := by kernel_rfl
  rw [run_eql_struct]
  simp [go_sem, h1, eqO]
  by_cases e1 : a = b <;> by_cases e2 : s.toList = t.toList <;> simp [e1, e2]
theorem neq_op (w : World) (a b : Int) (s t : ByteArray) : (binOp .neq 26 (.agg #[.int .i64 a, .string s]) (.agg #[.int .i64 b, .string t])).run Try.prog w = .ok (.bool (!eqO a s b t)) w := by
  have h1 : Try.prog.stoodInHeld 26 = false := by kernel_rfl
  rw [run_neq_struct]
  simp [go_sem, h1, eqO]
  by_cases e1 : a = b <;> by_cases e2 : s.toList = t.toList <;> simp [e1, e2]
attribute [go_sem ↓] eql_op neq_op
theorem eqO_iff (x y : El) : eqO x.1 x.2 y.1 y.2 = true ↔ x = y := by
  unfold eqO
  rw [Bool.and_eq_true, beq_iff_eq, beq_iff_eq, ByteArray.toList_eq, ByteArray.toList_eq]
  constructor
  · rintro ⟨h1, h2⟩
    exact Prod.ext h1 (arr_ext h2)
  · rintro rfl
    exact ⟨rfl, rfl⟩
/-- Are two lists the same? -/
def sameL (l m : List El) : Bool := decide (l.length = m.length) && (List.range l.length).all fun i => decide (l[i]? = m[i]?)
theorem sameL_self (l : List El) : sameL l l = true := by simp [sameL]
theorem sameL_iff (l m : List El) : sameL l m = true ↔ l = m := by
  constructor
  · intro h
    unfold sameL at h
    simp only [Bool.and_eq_true, decide_eq_true_eq, List.all_eq_true, List.mem_range] at h
    apply List.ext_getElem? 
    intro i
    by_cases hi : i < l.length
    · exact h.2 i hi
    · rw [List.getElem?_eq_none (by omega), List.getElem?_eq_none (by omega)]
  · rintro rfl
    exact sameL_self l

set_option maxRecDepth 100000 in
set_option maxHeartbeats 400000 in
theorem same_any (l m : List El) (n k : Nat) (hl : l.length = n) (hm : m.length = k) (hn : n ≤ 3000) (hk : k ≤ 3000) (a b : Option Addr) (ca cb : Nat) (w : World) (ha : Rd w a (encs l)) (hb : Rd w b (encs m)) :
    Calls Try.prog 19 #[.slice a n ca, .slice b k cb] w (Ret w (.bool (sameL l m))) := by
  by_cases hnk : n = k
  · subst hnk
    have q : ((n : Int) != (n : Int)) = false := by simp
    obtain ⟨r, hr⟩ : ∃ r, sameL l m = r := ⟨_, rfl⟩
    rw [hr]
    replace ha := Lib.hid ha; replace hb := Lib.hid hb; replace hl := Lib.hid hl; replace hm := Lib.hid hm; replace hr := Lib.hid hr
    go_enter Try.func19, Try.ntmps19
    go_wp2_with fail
    go_loopg [5] n (fun g i wr => ∃ j : Nat, j ≤ n ∧ g = n - j ∧ i = .int .i64 j ∧ Hid (∀ i, i < j → l[i]? = m[i]?) ∧ Below w.heap.size w wr)
    case atStart => exact ⟨0, by omega, by omega, rfl, Lib.hid (fun i h => by omega), (by repeat (first | with_reducible exact Below.refl _ _ | (with_reducible refine Below.al ?_) | (with_reducible refine Below.drew ?_) | (with_reducible refine Below.set ?_ (by first | (simp; done) | omega | (simp; omega))) | (with_reducible refine Below.thru ?_ (by assumption)) | (with_reducible refine Below.chg ?_ (by assumption) (by first | (simp; done) | omega | (simp; omega)))))⟩
    case round =>
      obtain ⟨j, hj, hg, rfl, hno, hbw⟩ := hrel
      by_cases hlt : j < n
      · have hjl : j < l.length := by have := hl.out; omega
        have hjm : j < m.length := by have := hm.out; omega
        obtain ⟨b1, o1, rfl, hb1, hc1⟩ := els_at (ha.out.below hbw) hl.out (by omega)
        obtain ⟨e0, e1⟩ := hc1 j hjl
        obtain ⟨b2, o2, rfl, hb2, hc2⟩ := els_at (hb.out.below hbw) hm.out (by omega)
        obtain ⟨e2, e3⟩ := hc2 j hjm
        have hiff := eqO_iff l[j] m[j]
        have hnx : l[j] = m[j] → ∀ i, i < j + 1 → l[i]? = m[i]? := fun h i hi => by
          by_cases e : i = j
          · subst e; rw [List.getElem?_eq_getElem hjl, List.getElem?_eq_getElem hjm, h]
          · exact hno.out i (by omega)
        have hne : l[j] ≠ m[j] → r = false := fun h => by
          rw [← hr.out]
          cases hs : sameL l m with
          | false => rfl
          | true =>
            have := (sameL_iff l m).1 hs
            subst this
            exact absurd rfl h
        clear hc1 hc2 hno
        generalize l[j] = x at *
        generalize m[j] = y at *
        cases hq : eqO x.1 x.2 y.1 y.2 with
        | true =>
          replace hnx := Lib.hid (hnx (hiff.1 hq))
          clear hiff hne
          go_wp2_with fail
          refine wp_region_near (by kernel_rfl) (by kernel_rfl) ?_
          intro hs
          repeat (go_big_quiet_step (fail))
          refine wpQuiet_nil ?_
          clear hs
          intro w1 hb3
          have hbw2 := hbw.trans (hb3.mono hbw.size)
          clear hb3
          go_wp2_with fail
          go_roundg (n - (j + 1))
          case measure => omega
          case rel => exact ⟨j + 1, by omega, rfl, by go_num, hnx, hbw2⟩
        | false =>
          have hrf := hne (fun e => by rw [hiff.2 e] at hq; cases hq)
          subst hrf
          clear hiff hne hnx hr
          go_wp2_with fail
          refine wp_region_near (by kernel_rfl) (by kernel_rfl) ?_
          intro hs
          repeat (go_big_quiet_step (fail))
          refine wpQuiet_nil ?_
          clear hs
          intro w1 hb3
          have hbw2 := hbw.trans (hb3.mono hbw.size)
          clear hb3
          go_wp2_with fail
          go_ret
          exact Ret.mk rfl hbw2
      · obtain rfl : j = n := by omega
        have hrt : r = true := by
          rw [← hr.out]
          unfold sameL
          simp only [Bool.and_eq_true, decide_eq_true_eq, List.all_eq_true, List.mem_range]
          exact ⟨by rw [hl.out, hm.out], fun i hi => hno.out i (by rw [← hl.out]; exact hi)⟩
        subst hrt
        clear hr hno
        go_wp2_with fail
        go_ret
        exact Ret.mk rfl (by repeat (first | with_reducible exact Below.refl _ _ | (with_reducible refine Below.al ?_) | (with_reducible refine Below.drew ?_) | (with_reducible refine Below.set ?_ (by first | (simp; done) | omega | (simp; omega))) | (with_reducible refine Below.thru ?_ (by assumption)) | (with_reducible refine Below.chg ?_ (by assumption) (by first | (simp; done) | omega | (simp; omega)))))
  · have q : ((n : Int) != (k : Int)) = true := by simp; omega
    have hr : sameL l m = false := by unfold sameL; rw [hl, hm, decide_eq_false hnk]; rfl
    rw [hr]
    replace ha := Lib.hid ha; replace hb := Lib.hid hb; replace hl := Lib.hid hl; replace hm := Lib.hid hm; replace hr := Lib.hid hr
    go_enter Try.func19, Try.ntmps19
    go_wp2_with fail
    go_ret
    exact Ret.mk rfl (by repeat (first | with_reducible exact Below.refl _ _ | (with_reducible refine Below.al ?_) | (with_reducible refine Below.drew ?_) | (with_reducible refine Below.set ?_ (by first | (simp; done) | omega | (simp; omega))) | (with_reducible refine Below.thru ?_ (by assumption)) | (with_reducible refine Below.chg ?_ (by assumption) (by first | (simp; done) | omega | (simp; omega)))))

theorem els_in {w : World} {a : Option Addr} {len cap : Nat} (h : Fits w (.slice 2 (.cons 1 (.int .i64) (.cons 1 .str .nil))) [.slice a len cap]) :
    len ≤ maxLen ∧ (a = none → len = 0) ∧ ∃ l : List El, l.length = len ∧ (∀ x ∈ l, isI64 x.1 ∧ x.2.size ≤ maxLen) ∧ Rd w a (encs l) :=
  rows_in (size := 2) enc (by omega) enc_len (fun cs hf _ => by
    obtain ⟨_, _, rfl, f0, r0⟩ := fits_cons1 hf
    obtain ⟨_, _, rfl, f1, r1⟩ := fits_cons1 r0
    obtain ⟨n, rfl, wn⟩ := fits_int f0
    obtain ⟨s, rfl, ws⟩ := fits_str f1
    obtain rfl : _ = [] := r1
    exact ⟨(n, s), rfl, bounds_i64 wn, ws⟩) h
def bigO (l : List El) : Bool := decide (60 < l.length) || l.any fun x => decide (600 < x.2.size)
theorem big_no {l : List El} (h : bigO l = false) : l.length ≤ 60 ∧ ∀ x ∈ l, x.2.size ≤ 600 := by
  unfold bigO at h
  simp only [Bool.or_eq_false_iff, decide_eq_false_iff_not, List.any_eq_false] at h
  exact ⟨by omega, fun o ho => by have := h.2 o ho; simp at this; omega⟩
set_option maxRecDepth 100000 in
set_option maxHeartbeats 400000 in
theorem great_any (L : List El) (n : Nat) (hl : L.length = n) (hn : n ≤ maxLen) (hgood : ∀ o ∈ L, o.2.size ≤ maxLen) (a : Option Addr) (cap : Nat) (w : World) (h : Rd w a (encs L)) :
    Calls Try.prog 12 #[.slice a n cap] w (Ret w (.bool (bigO L))) := by
  unfold maxLen at hn
  replace h := Lib.hid h; replace hl := Lib.hid hl; replace hgood := Lib.hid hgood
  go_enter Try.func12, Try.ntmps12
  go_wp2_with fail
  go_loopg [3] n (fun g i wr => ∃ j : Nat, j ≤ n ∧ g = n - j ∧ i = .int .i64 j ∧ j ≤ 60 ∧ Below w.heap.size w wr ∧ Hid (∀ i (hi : i < L.length), i < j → L[i].2.size ≤ 600))
  case atStart => exact ⟨0, by omega, by omega, rfl, by omega, (by repeat (first | with_reducible exact Below.refl _ _ | (with_reducible refine Below.al ?_) | (with_reducible refine Below.drew ?_) | (with_reducible refine Below.set ?_ (by first | (simp; done) | omega | (simp; omega))) | (with_reducible refine Below.thru ?_ (by assumption)) | (with_reducible refine Below.chg ?_ (by assumption) (by first | (simp; done) | omega | (simp; omega))))), fun i _ h => by omega⟩
  case round =>
    obtain ⟨j, hj, hg, rfl, h4, hbw, hno⟩ := hrel
    by_cases hlt : j < n
    · have hjl : j < L.length := by have := hl.out; omega
      obtain ⟨b, off, rfl, hb, hc⟩ := els_at (h.out.below hbw) hl.out (by omega)
      obtain ⟨_, e1⟩ := hc j hjl
      have hs := hgood.out L[j] (List.getElem_mem hjl)
      unfold maxLen at hs
      have hbig : 600 < L[j].2.size → bigO L = true := fun h => by
        unfold bigO
        rw [Bool.or_eq_true]
        exact .inr (List.any_eq_true.2 ⟨L[j], List.getElem_mem hjl, decide_eq_true h⟩)
      have hbig2 : j = 60 → bigO L = true := fun h => by
        unfold bigO
        rw [decide_eq_true (show 60 < L.length by omega)]
        rfl
      have hnx : L[j].2.size ≤ 600 → ∀ i (hi : i < L.length), i < j + 1 → L[i].2.size ≤ 600 := fun h i hi h1 => by
        by_cases e : i = j
        · subst e; exact h
        · exact hno.out i hi (by omega)
      clear hc hno
      generalize L[j] = y at *
      obtain ⟨k, v⟩ := y
      simp only at e1 hs hbig hnx
      by_cases h60 : j = 60
      · have q : decide ((60 : Int) ≤ (j : Int)) = true := decide_eq_true (by omega)
        replace hbig2 := Lib.hid (hbig2 h60)
        clear hbig hnx h60
        go_wp2_with fail
        go_ret
        exact Ret.mk (by rw [hbig2.out]; rfl) (by repeat (first | with_reducible exact Below.refl _ _ | (with_reducible refine Below.al ?_) | (with_reducible refine Below.drew ?_) | (with_reducible refine Below.set ?_ (by first | (simp; done) | omega | (simp; omega))) | (with_reducible refine Below.thru ?_ (by assumption)) | (with_reducible refine Below.chg ?_ (by assumption) (by first | (simp; done) | omega | (simp; omega)))))
      · have q : decide ((60 : Int) ≤ (j : Int)) = false := decide_eq_false (by omega)
        by_cases hv : 600 < v.size
        · have q2 : decide ((600 : Int) < (v.size : Int)) = true := decide_eq_true (by omega)
          replace hbig := Lib.hid (hbig hv)
          clear hbig2 hnx h60
          go_wp2_with fail
          go_ret
          exact Ret.mk (by rw [hbig.out]; rfl) (by repeat (first | with_reducible exact Below.refl _ _ | (with_reducible refine Below.al ?_) | (with_reducible refine Below.drew ?_) | (with_reducible refine Below.set ?_ (by first | (simp; done) | omega | (simp; omega))) | (with_reducible refine Below.thru ?_ (by assumption)) | (with_reducible refine Below.chg ?_ (by assumption) (by first | (simp; done) | omega | (simp; omega)))))
        · have q2 : decide ((600 : Int) < (v.size : Int)) = false := decide_eq_false (by omega)
          replace hnx := Lib.hid (hnx (by omega))
          clear hbig hbig2
          go_wp2_with fail
          go_roundg (n - (j + 1))
          case measure => omega
          case rel => exact ⟨j + 1, by omega, rfl, by go_num, by omega, (by repeat (first | with_reducible exact Below.refl _ _ | (with_reducible refine Below.al ?_) | (with_reducible refine Below.drew ?_) | (with_reducible refine Below.set ?_ (by first | (simp; done) | omega | (simp; omega))) | (with_reducible refine Below.thru ?_ (by assumption)) | (with_reducible refine Below.chg ?_ (by assumption) (by first | (simp; done) | omega | (simp; omega))))), hnx.out⟩
    · obtain rfl : j = n := by omega
      have hb : bigO L = false := by
        unfold bigO
        rw [decide_eq_false (by have := hl.out; omega), Bool.false_or, List.any_eq_false]
        intro x hx
        obtain ⟨i, hi, rfl⟩ := List.getElem_of_mem hx
        have := hno.out i hi (by have := hl.out; omega)
        simp
        omega
      replace hb := Lib.hid hb
      clear hno
      go_wp2_with fail
      go_ret
      exact Ret.mk (by rw [hb.out]; rfl) (by repeat (first | with_reducible exact Below.refl _ _ | (with_reducible refine Below.al ?_) | (with_reducible refine Below.drew ?_) | (with_reducible refine Below.set ?_ (by first | (simp; done) | omega | (simp; omega))) | (with_reducible refine Below.thru ?_ (by assumption)) | (with_reducible refine Below.chg ?_ (by assumption) (by first | (simp; done) | omega | (simp; omega)))))

end Go.Proofs.Ytpajedpkdfacoaa.Opts
