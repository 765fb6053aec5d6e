/- The walks of Same, Great, works. -/
import Derived.Test.YtljgmephajocaaaOptsRef
namespace Go.Proofs.Ytljgmephajocaaa.Opts
set_option linter.unusedSimpArgs false
set_option linter.unusedVariables false
open Go Go.RowKit Go.Shelf Go.Proofs.Ytljgmephajocaaa
attribute [local irreducible] Calls

def eqO (a : Int) (s : ByteArray) (b : Int) (t : ByteArray) : Bool := a == b && s.toList == t.toList
theorem eql_op (w : World) (a b : Int) (s t : ByteArray) : (binOp .eql 73 (.agg #[.int .i64 a, .string s]) (.agg #[.int .i64 b, .string t])).run Try.prog w = .ok (.bool (eqO a s b t)) w := by
  have h1 : Try.prog.stoodInHeld 73 = false := by kernel_rfl
  rw [run_eql_struct]
  simp [go_sem, h1, eqO]
  by_cases e1 : a = b <;> by_cases e2 : s.toList = t.toList <;> simp [e1, e2]
theorem neq_op (w : World) (a b : Int) (s t : ByteArray) : (binOp .neq 73 (.agg #[.int .i64 a, .string s]) (.agg #[.int .i64 b, .string t])).run Try.prog w = .ok (.bool (!eqO a s b t)) w := by
  have h1 : Try.prog.stoodInHeld 73 = false := by kernel_rfl
  rw [run_neq_struct]
  simp [go_sem, h1, eqO]
  by_cases e1 : a = b <;> by_cases e2 : s.toList = t.toList <;> simp [e1, e2]
attribute [go_sem ↓] eql_op neq_op
theorem eqO_iff (x y : El) : eqO x.1 x.2 y.1 y.2 = true ↔ x = y := by
  unfold eqO
  rw [Bool.and_eq_true, beq_iff_eq, beq_iff_eq, ByteArray.toList_eq, ByteArray.toList_eq]
  constructor
  · rintro ⟨h1, h2⟩
    exact Prod.ext h1 (arr_ext h2)
  · rintro rfl
    exact ⟨rfl, rfl⟩
/-- Are two lists the same? -/
def sameL (l m : List El) : Bool := decide (l.length = m.length) && (List.range l.length).all fun i => decide (l[i]? = m[i]?)
theorem sameL_self (l : List El) : sameL l l = true := by simp [sameL]
theorem sameL_iff (l m : List El) : sameL l m = true ↔ l = m := by
  constructor
  · intro h
    unfold sameL at h
    simp only [Bool.and_eq_true, decide_eq_true_eq, List.all_eq_true, List.mem_range] at h
    apply List.ext_getElem? 
    intro i
    by_cases hi : i < l.length
    · exact h.2 i hi
    · rw [List.getElem?_eq_none (by omega), List.getElem?_eq_none (by omega)]
  · rintro rfl
    exact sameL_self l

set_option maxRecDepth 100000 in
set_option maxHeartbeats 400000 in
theorem same_any (l m : List El) (n k : Nat) (hl : l.length = n) (hm : m.length = k) (hn : n ≤ 3000) (hk : k ≤ 3000) (a b : Option Addr) (ca cb : Nat) (w : World) (ha : Rd w a (encs l)) (hb : Rd w b (encs m)) :
    Calls Try.prog 40 #[.slice a n ca, .slice b k cb] w (Ret w (.bool (sameL l m))) := by
  by_cases hnk : n = k
  · subst hnk
    have q : ((n : Int) != (n : Int)) = false := by simp
    obtain ⟨r, hr⟩ : ∃ r, sameL l m = r := ⟨_, rfl⟩
    rw [hr]
    replace ha := Lib.hid ha; replace hb := Lib.hid hb; replace hl := Lib.hid hl; replace hm := Lib.hid hm; replace hr := Lib.hid hr
    go_enter Try.func40, Try.ntmps40
    go_wp2_with fail
    go_loopg [5] n (fun g i wr => ∃ j : Nat, j ≤ n ∧ g = n - j ∧ i = .int .i64 j ∧ Hid (∀ i, i < j → l[i]? = m[i]?) ∧ Below w.heap.size w wr)
    case atStart => exact ⟨0, by omega, by omega, rfl, Lib.hid (fun i h => by omega), (by repeat (first | with_reducible exact Below.refl _ _ | (with_reducible refine Below.al ?_) | (with_reducible refine Below.drew ?_) | (with_reducible refine Below.set ?_ (by first | (simp; done) | omega | (simp; omega))) | (with_reducible refine Below.thru ?_ (by assumption)) | (with_reducible refine Below.chg ?_ (by assumption) (by first | (simp; done) | omega | (simp; omega)))))⟩
    case round =>
      obtain ⟨j, hj, hg, rfl, hno, hbw⟩ := hrel
      by_cases hlt : j < n
      · have hjl : j < l.length := by have := hl.out; omega
        have hjm : j < m.length := by have := hm.out; omega
        obtain ⟨b1, o1, rfl, hb1, hc1⟩ := els_at (ha.out.below hbw) hl.out (by omega)
        obtain ⟨e0, e1⟩ := hc1 j hjl
        obtain ⟨b2, o2, rfl, hb2, hc2⟩ := els_at (hb.out.below hbw) hm.out (by omega)
        obtain ⟨e2, e3⟩ := hc2 j hjm
        have hiff := eqO_iff l[j] m[j]
        have hnx : l[j] = m[j] → ∀ i, i < j + 1 → l[i]? = m[i]? := fun h i hi => by
          by_cases e : i = j
          · subst e; rw [List.getElem?_eq_getElem hjl, List.getElem?_eq_getElem hjm, h]
          · exact hno.out i (by omega)
        have hne : l[j] ≠ m[j] → r = false := fun h => by
          rw [← hr.out]
          cases hs : sameL l m with
          | false => rfl
          | true =>
            have := (sameL_iff l m).1 hs
            subst this
            exact absurd rfl h
        clear hc1 hc2 hno
        generalize l[j] = x at *
        generalize m[j] = y at *
        cases hq : eqO x.1 x.2 y.1 y.2 with
        | true =>
          replace hnx := Lib.hid (hnx (hiff.1 hq))
          clear hiff hne
          go_wp2_with fail
          refine wp_region_near (by kernel_rfl) (by kernel_rfl) ?_
          intro hs
          repeat (go_big_quiet_step (fail))
          refine wpQuiet_nil ?_
          clear hs
          intro w1 hb3
          have hbw2 := hbw.trans (hb3.mono hbw.size)
          clear hb3
          go_wp2_with fail
          go_roundg (n - (j + 1))
          case measure => omega
          case rel => exact ⟨j + 1, by omega, rfl, by go_num, hnx, hbw2⟩
        | false =>
          have hrf := hne (fun e => by rw [hiff.2 e] at hq; cases hq)
          subst hrf
          clear hiff hne hnx hr
          go_wp2_with fail
          refine wp_region_near (by kernel_rfl) (by kernel_rfl) ?_
          intro hs
          repeat (go_big_quiet_step (fail))
          refine wpQuiet_nil ?_
          clear hs
          intro w1 hb3
          have hbw2 := hbw.trans (hb3.mono hbw.size)
          clear hb3
          go_wp2_with fail
          go_ret
          exact Ret.mk rfl hbw2
      · obtain rfl : j = n := by omega
        have hrt : r = true := by
          rw [← hr.out]
          unfold sameL
          simp only [Bool.and_eq_true, decide_eq_true_eq, List.all_eq_true, List.mem_range]
          exact ⟨by rw [hl.out, hm.out], fun i hi => hno.out i (by rw [← hl.out]; exact hi)⟩
        subst hrt
        clear hr hno
        go_wp2_with fail
        go_ret
        exact Ret.mk rfl (by repeat (first | with_reducible exact Below.refl _ _ | (with_reducible refine Below.al ?_) | (with_reducible refine Below.drew ?_) | (with_reducible refine Below.set ?_ (by first | (simp; done) | omega | (simp; omega))) | (with_reducible refine Below.thru ?_ (by assumption)) | (with_reducible refine Below.chg ?_ (by assumption) (by first | (simp; done) | omega | (simp; omega)))))
  · have q : ((n : Int) != (k : Int)) = true := by simp; omega
    have hr : sameL l m = false := by unfold sameL; rw [hl, hm, decide_eq_false hnk]; rfl
    rw [hr]
    replace ha := Lib.hid ha; replace hb := Lib.hid hb; replace hl := Lib.hid hl; replace hm := Lib.hid hm; replace hr := Lib.hid hr
    go_enter Try.func40, Try.ntmps40
    go_wp2_with fail
    go_ret
    exact Ret.mk rfl (by repeat (first | with_reducible exact Below.refl _ _ | (with_reducible refine Below.al ?_) | (with_reducible refine Below.drew ?_) | (with_reducible refine Below.set ?_ (by first | (simp; done) | omega | (simp; omega))) | (with_reducible refine Below.thru ?_ (by assumption)) | (with_reducible refine Below.chg ?_ (by assumption) (by first | (simp; done) | omega | (simp; omega)))))

theorem put_38 : checkL [(38, ⟨#[97, 98]⟩)] = 0 ∧ putL [(38, ⟨#[97, 98]⟩)] = [38, 4, 97, 98] := by decide
theorem get_38 : readL [2, 38, 4, 97, 98, 0] = ([(2, ⟨#[]⟩), (38, ⟨#[97, 98]⟩)], 0) := by rfl
set_option maxRecDepth 100000 in
set_option maxHeartbeats 800000 in
theorem works_law (w : World) : Calls Try.prog 36 #[] w (Ret w (.bool true)) := by
  have hG : getE [2, 38, 4, 97, 98, 0] = 0 := by
    unfold getE
    rw [get_38]
    decide
  have H1 := (St.zero w).alloc [.int .i64 38, .string ⟨#[97, 98]⟩] 73
  have P1 := put_any [(38, ⟨#[97, 98]⟩)] 1 rfl ⟨by decide, fun x hx => by simp at hx; subst hx; exact ⟨by unfold isI64; decide, by decide⟩⟩ (some ⟨w.heap.size, 0, none⟩) 1 _ (H1.box 0 rfl).rd
  rw [if_pos put_38.1, put_38.1, put_38.2] at P1
  replace H1 := Lib.hid H1; replace hG := Lib.hid hG
  go_enter Try.func36, Try.ntmps36
  go_wp2_with fail
  refine Calls.mono P1 ?_
  rintro e w1 ⟨rfl, hb1⟩
  have H2 := (H1.out.thru hb1)
  clear P1 H1
  have P2 := get_any ⟨#[2, 38, 4, 97, 98, 0]⟩ (by decide) w1
  unfold GetS at P2
  have e1 : (ByteArray.mk #[2, 38, 4, 97, 98, 0]).data.toList = [2, 38, 4, 97, 98, 0] := rfl
  rw [e1, hG.out, get_38] at P2
  simp only [if_true] at P2
  replace H2 := Lib.hid H2
  clear e1
  go_wp2_with fail
  refine Calls.mono P2 ?_
  rintro e w2 ⟨v, rfl, H3⟩
  have H4 := H2.out.add H3
  clear P2 H3 H2
  obtain ⟨a3, c3, rfl, _⟩ := St.slice (by omega) 0 H4 rfl
  have H5 := H4.alloc [.int .i64 2, .string ⟨#[]⟩, .int .i64 38, .string ⟨#[97, 98]⟩] 73
  have P3 := same_any [(2, ⟨#[]⟩), (38, ⟨#[97, 98]⟩)] [(2, ⟨#[]⟩), (38, ⟨#[97, 98]⟩)] 2 2 rfl rfl (by decide) (by decide) a3 (some ⟨w2.heap.size, 0, none⟩) c3 2 _ (St.rd (by omega) 1 H5 rfl) (H5.box 0 rfl).rd
  rw [sameL_self] at P3
  have hs1 : (ByteArray.mk ([38, 4, 97, 98] : List UInt8).toArray).toList == (ByteArray.mk #[38, 4, 97, 98]).toList := by simp
  replace H5 := Lib.hid H5
  clear H4
  go_wp2_with fail
  refine Calls.mono P3 ?_
  rintro e w3 ⟨rfl, hb3⟩
  have H6 := H5.out.thru hb3
  replace H6 := Lib.hid H6
  go_wp2_with fail
  go_ret
  exact H6.out.ret rfl
end Go.Proofs.Ytljgmephajocaaa.Opts
