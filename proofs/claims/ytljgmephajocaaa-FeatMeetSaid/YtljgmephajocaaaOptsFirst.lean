/- The walks of opts.first. -/
import Derived.Test.YtljgmephajocaaaOptsPut
import Derived.Test.YtljgmephajocaaaMade
import Derived.WalkSpells
namespace Go.Proofs.Ytljgmephajocaaa.Opts
set_option linter.unusedSimpArgs false
set_option linter.unusedVariables false
open Go Go.RowKit Go.Proofs.Ytljgmephajocaaa
attribute [local irreducible] Calls

def zero : El := (0, ⟨#[]⟩)
/-- The first option of bytes, what stands behind it, what is wrong. -/
def rd1 (l : List UInt8) : El × List UInt8 × Int :=
  match l with
  | [] => (zero, [], 0)
  | k :: t => if k.toNat ≤ 31 then (((k.toNat : Int), ⟨#[]⟩), t, 0) else
    match t with
    | [] => (zero, [], 1)
    | n :: u => if n.toNat < 2 then (zero, [], 4) else if u.length + 2 < n.toNat then (zero, [], 1) else (((k.toNat : Int), ⟨(u.take (n.toNat - 2)).toArray⟩), u.drop (n.toNat - 2), 0)
theorem arr_ext {a b : ByteArray} (h : a.data.toList = b.data.toList) : a = b := by
  cases a with | mk a => cases b with | mk b =>
    congr 1
    exact Array.toList_inj.1 h
def FirstS (s : ByteArray) (l : List UInt8) (w : World) (e : Ending) (w' : World) : Prop :=
  ∃ r : ByteArray, r.data.toList = (rd1 l).2.1 ∧ e = .returned (.tuple #[val (rd1 l).1, .string r, .int .i64 (rd1 l).2.2]) ∧ Below w.heap.size w w'
set_option maxRecDepth 100000 in
theorem first_any (s : ByteArray) (k : UInt8) (t : List UInt8) (hs : s.data.toList = k :: t) (hsz : s.size ≤ 3000) (w : World) : Calls Try.prog 137 #[.string s] w (FirstS s (k :: t) w) := by
  have hlen : s.size = t.length + 1 := by
    have : s.data.toList.length = s.size := by simp
    rw [hs] at this
    simpa using this.symm
  have h0 : 0 < s.size := by omega
  have hc0 : s[0] = k := by
    have h1 : s[0] = s.data.toList[0]'(by simp; exact h0) := rfl
    rw [h1]
    simp [hs]
  have hk256 := k.toNat_lt
  unfold FirstS rd1
  by_cases h31 : k.toNat ≤ 31
  · have q : decide (((s[0]).toNat : Int) ≤ 31) = true := by rw [hc0]; exact decide_eq_true (by omega)
    simp only [if_pos h31]
    have hr : (s.extract 1 s.size).data.toList = t := by
      rw [ByteArray.data_extract, Array.toList_extract, List.extract_eq_take_drop, hs]
      simp
      exact List.take_of_length_le (by omega)
    rw [← hc0] at hk256 ⊢
    clear h31 hs hc0
    have hb0 : ∀ o, Below w.heap.size w ((w.alloc (.cells #[.int .i64 0, .string ⟨#[]⟩] 73)).alloc o) := fun o => (by repeat (first | with_reducible exact Below.refl _ _ | (with_reducible refine Below.al ?_) | (with_reducible refine Below.drew ?_) | (with_reducible refine Below.set ?_ (by first | (simp; done) | omega | (simp; omega))) | (with_reducible refine Below.thru ?_ (by assumption)) | (with_reducible refine Below.chg ?_ (by assumption) (by first | (simp; done) | omega | (simp; omega)))))
    replace hr := Lib.hid hr; replace hlen := Lib.hid hlen
    go_enter Try.func137, Try.ntmps137
    go_wp2_with fail
    refine wp_region_made (w.heap.size) (w) [1, 2] [false, true, true, false, false, false] 4 #[false, true, true, false, false, false] (by kernel_rfl) (hb0 _) rfl (by kernel_rfl) (by kernel_rfl) rfl (by kernel_rfl) (by kernel_rfl) (by intro c a a' w e h; obtain ⟨t, d⟩ := a; obtain ⟨t', d'⟩ := a'; obtain rfl : d = d' := e; exact h) ?_
    intro hs
    simp only [pickB]
    repeat (go_big_quiet_step (fail))
    refine wpQuiet_nil ?_
    clear hs
    refine held_one (i := 0) (by kernel_rfl) fun K hK => ?_
    simp only [List.drop_succ_cons, List.drop_zero, List.take_succ_cons, List.take_zero]
    go_wp2_with fail
    refine hK _ _ (by repeat (first | with_reducible exact Below.refl _ _ | (with_reducible refine Below.al ?_) | (with_reducible refine Below.drew ?_) | (with_reducible refine Below.set ?_ (by first | (simp; done) | omega | (simp; omega))) | (with_reducible refine Below.thru ?_ (by assumption)) | (with_reducible refine Below.chg ?_ (by assumption) (by first | (simp; done) | omega | (simp; omega))))) ?_
    clear hK K
    refine held_one (i := 3) (by kernel_rfl) fun K hK => ?_
    simp only [List.drop_succ_cons, List.drop_zero, List.take_succ_cons, List.take_zero]
    go_wp2_with fail
    refine hK _ _ (by repeat (first | with_reducible exact Below.refl _ _ | (with_reducible refine Below.al ?_) | (with_reducible refine Below.drew ?_) | (with_reducible refine Below.set ?_ (by first | (simp; done) | omega | (simp; omega))) | (with_reducible refine Below.thru ?_ (by assumption)) | (with_reducible refine Below.chg ?_ (by assumption) (by first | (simp; done) | omega | (simp; omega))))) ?_
    clear hK K
    refine held_one (i := 4) (by kernel_rfl) fun K hK => ?_
    simp only [List.drop_succ_cons, List.drop_zero, List.take_succ_cons, List.take_zero]
    go_wp2_with fail
    refine hK _ _ (by repeat (first | with_reducible exact Below.refl _ _ | (with_reducible refine Below.al ?_) | (with_reducible refine Below.drew ?_) | (with_reducible refine Below.set ?_ (by first | (simp; done) | omega | (simp; omega))) | (with_reducible refine Below.thru ?_ (by assumption)) | (with_reducible refine Below.chg ?_ (by assumption) (by first | (simp; done) | omega | (simp; omega))))) ?_
    clear hK K
    refine held_one (i := 5) (by kernel_rfl) fun K hK => ?_
    simp only [List.drop_succ_cons, List.drop_zero, List.take_succ_cons, List.take_zero]
    go_wp2_with fail
    refine hK _ _ (by repeat (first | with_reducible exact Below.refl _ _ | (with_reducible refine Below.al ?_) | (with_reducible refine Below.drew ?_) | (with_reducible refine Below.set ?_ (by first | (simp; done) | omega | (simp; omega))) | (with_reducible refine Below.thru ?_ (by assumption)) | (with_reducible refine Below.chg ?_ (by assumption) (by first | (simp; done) | omega | (simp; omega))))) ?_
    clear hK K
    refine held_done (by kernel_rfl) ?_
    go_wp2_with fail
    exact bodyPost_ret (v := .tuple #[val (((s[0]).toNat : Int), ⟨#[]⟩), .string (s.extract 1 s.size), .int .i64 0]) (by simp [results, Try.results137, go_sem, val, zero]; try rfl) rfl ⟨(s.extract 1 s.size), by first | rfl | exact hr.out, rfl, (by repeat (first | with_reducible exact Below.refl _ _ | (with_reducible refine Below.al ?_) | (with_reducible refine Below.drew ?_) | (with_reducible refine Below.set ?_ (by first | (simp; done) | omega | (simp; omega))) | (with_reducible refine Below.thru ?_ (by assumption)) | (with_reducible refine Below.chg ?_ (by assumption) (by first | (simp; done) | omega | (simp; omega)))))⟩
  · have q : decide (((s[0]).toNat : Int) ≤ 31) = false := by rw [hc0]; exact decide_eq_false (by omega)
    simp only [if_neg h31]
    cases t with
    | nil =>
      have q2 : decide ((s.size : Int) < 2) = true := decide_eq_true (by simp at hlen; omega)
      have hk : (s[0]).toNat < 256 := UInt8.toNat_lt _
      have hr : (ByteArray.mk #[]).data.toList = ([] : List UInt8) := rfl
      clear h31 hs hk256 hc0
      replace hr := Lib.hid hr; replace hlen := Lib.hid hlen
      go_enter Try.func137, Try.ntmps137
      go_wp2_with fail
      exact bodyPost_ret (v := .tuple #[val zero, .string ⟨#[]⟩, .int .i64 1]) (by simp [results, Try.results137, go_sem, val, zero]; try rfl) rfl ⟨⟨#[]⟩, by first | rfl | exact hr.out, rfl, (by repeat (first | with_reducible exact Below.refl _ _ | (with_reducible refine Below.al ?_) | (with_reducible refine Below.drew ?_) | (with_reducible refine Below.set ?_ (by first | (simp; done) | omega | (simp; omega))) | (with_reducible refine Below.thru ?_ (by assumption)) | (with_reducible refine Below.chg ?_ (by assumption) (by first | (simp; done) | omega | (simp; omega)))))⟩
    | cons n u =>
      have h1 : 1 < s.size := by simp at hlen; omega
      have q2 : decide ((s.size : Int) < 2) = false := decide_eq_false (by omega)
      have hc1 : s[1] = n := by
        have h2 : s[1] = s.data.toList[1]'(by simp; exact h1) := rfl
        rw [h2]
        simp [hs]
      have hk : (s[0]).toNat < 256 := UInt8.toNat_lt _
      have hkn : (s[1]).toNat < 256 := UInt8.toNat_lt _
      have hlen2 : s.size = u.length + 2 := by simp at hlen; omega
      rw [← hc0, ← hc1]
      by_cases hn2 : (s[1]).toNat < 2
      · have q3 : decide (((s[1]).toNat : Int) < 2) = true := decide_eq_true (by omega)
        have hr : (ByteArray.mk #[]).data.toList = ([] : List UInt8) := rfl
        simp only [if_pos hn2]
        clear h31 hs hk256 hc0 hc1
        replace hr := Lib.hid hr; replace hlen := Lib.hid hlen; replace hlen2 := Lib.hid hlen2; replace hn2 := Lib.hid hn2
        go_enter Try.func137, Try.ntmps137
        go_wp2_with fail
        exact bodyPost_ret (v := .tuple #[val zero, .string ⟨#[]⟩, .int .i64 4]) (by simp [results, Try.results137, go_sem, val, zero]; try rfl) rfl ⟨⟨#[]⟩, by first | rfl | exact hr.out, rfl, (by repeat (first | with_reducible exact Below.refl _ _ | (with_reducible refine Below.al ?_) | (with_reducible refine Below.drew ?_) | (with_reducible refine Below.set ?_ (by first | (simp; done) | omega | (simp; omega))) | (with_reducible refine Below.thru ?_ (by assumption)) | (with_reducible refine Below.chg ?_ (by assumption) (by first | (simp; done) | omega | (simp; omega)))))⟩
      · have q3 : decide (((s[1]).toNat : Int) < 2) = false := decide_eq_false (by omega)
        simp only [if_neg hn2]
        by_cases hnl : u.length + 2 < (s[1]).toNat
        · have q4 : decide ((s.size : Int) < ((s[1]).toNat : Int)) = true := decide_eq_true (by omega)
          have q5 : decide (s.size < (s[1]).toNat) = true := decide_eq_true (by omega)
          have hr : (ByteArray.mk #[]).data.toList = ([] : List UInt8) := rfl
          simp only [if_pos hnl]
          clear h31 hs hk256 hc0 hc1
          replace hr := Lib.hid hr; replace hlen := Lib.hid hlen; replace hlen2 := Lib.hid hlen2; replace hnl := Lib.hid hnl
          go_enter Try.func137, Try.ntmps137
          go_wp2_with fail
          exact bodyPost_ret (v := .tuple #[val zero, .string ⟨#[]⟩, .int .i64 1]) (by simp [results, Try.results137, go_sem, val, zero]; try rfl) rfl ⟨⟨#[]⟩, by first | rfl | exact hr.out, rfl, (by repeat (first | with_reducible exact Below.refl _ _ | (with_reducible refine Below.al ?_) | (with_reducible refine Below.drew ?_) | (with_reducible refine Below.set ?_ (by first | (simp; done) | omega | (simp; omega))) | (with_reducible refine Below.thru ?_ (by assumption)) | (with_reducible refine Below.chg ?_ (by assumption) (by first | (simp; done) | omega | (simp; omega)))))⟩
        · have q4 : decide ((s.size : Int) < ((s[1]).toNat : Int)) = false := decide_eq_false (by omega)
          have q5 : decide (s.size < (s[1]).toNat) = false := decide_eq_false (by omega)
          simp only [if_neg hnl]
          have hv : s.extract 2 (s[1]).toNat = ⟨(u.take ((s[1]).toNat - 2)).toArray⟩ := by
            apply arr_ext
            rw [ByteArray.data_extract, Array.toList_extract, List.extract_eq_take_drop, hs]
            simp
          have hr : (s.extract (s[1]).toNat s.size).data.toList = u.drop ((s[1]).toNat - 2) := by
            rw [ByteArray.data_extract, Array.toList_extract, List.extract_eq_take_drop, hs]
            obtain ⟨m, hm⟩ : ∃ m, (s[1]).toNat = m + 2 := ⟨(s[1]).toNat - 2, by omega⟩
            rw [hm]
            simp
            exact List.take_of_length_le (by simp; omega)
          have hle : (s[1]).toNat ≤ s.size := by omega
          have hge : 2 ≤ (s[1]).toNat := by omega
          rw [← hv]
          have hb0 : ∀ o, Below w.heap.size w ((w.alloc (.cells #[.int .i64 0, .string ⟨#[]⟩] 73)).alloc o) := fun o => (by repeat (first | with_reducible exact Below.refl _ _ | (with_reducible refine Below.al ?_) | (with_reducible refine Below.drew ?_) | (with_reducible refine Below.set ?_ (by first | (simp; done) | omega | (simp; omega))) | (with_reducible refine Below.thru ?_ (by assumption)) | (with_reducible refine Below.chg ?_ (by assumption) (by first | (simp; done) | omega | (simp; omega)))))
          clear h31 hs hk256 hc0 hc1
          replace hr := Lib.hid hr; replace hv := Lib.hid hv; replace hlen := Lib.hid hlen; replace hlen2 := Lib.hid hlen2; replace hnl := Lib.hid hnl
          go_enter Try.func137, Try.ntmps137
          go_wp2_with fail
          refine wp_region_made (w.heap.size) (w) [1, 2, 3] [false, true, true, true, false, false, false] 4 #[false, true, true, true, false, false, false] (by kernel_rfl) (hb0 _) rfl (by kernel_rfl) (by kernel_rfl) rfl (by kernel_rfl) (by kernel_rfl) (by intro c a a' w e h; obtain ⟨t, d⟩ := a; obtain ⟨t', d'⟩ := a'; obtain rfl : d = d' := e; exact h) ?_
          intro hs
          simp only [pickB]
          repeat (go_big_quiet_step (fail))
          refine wpQuiet_nil ?_
          clear hs
          refine held_one (i := 0) (by kernel_rfl) fun K hK => ?_
          simp only [List.drop_succ_cons, List.drop_zero, List.take_succ_cons, List.take_zero]
          go_wp2_with fail
          refine hK _ _ (by repeat (first | with_reducible exact Below.refl _ _ | (with_reducible refine Below.al ?_) | (with_reducible refine Below.drew ?_) | (with_reducible refine Below.set ?_ (by first | (simp; done) | omega | (simp; omega))) | (with_reducible refine Below.thru ?_ (by assumption)) | (with_reducible refine Below.chg ?_ (by assumption) (by first | (simp; done) | omega | (simp; omega))))) ?_
          clear hK K
          refine held_one (i := 4) (by kernel_rfl) fun K hK => ?_
          simp only [List.drop_succ_cons, List.drop_zero, List.take_succ_cons, List.take_zero]
          go_wp2_with fail
          refine hK _ _ (by repeat (first | with_reducible exact Below.refl _ _ | (with_reducible refine Below.al ?_) | (with_reducible refine Below.drew ?_) | (with_reducible refine Below.set ?_ (by first | (simp; done) | omega | (simp; omega))) | (with_reducible refine Below.thru ?_ (by assumption)) | (with_reducible refine Below.chg ?_ (by assumption) (by first | (simp; done) | omega | (simp; omega))))) ?_
          clear hK K
          refine held_one (i := 5) (by kernel_rfl) fun K hK => ?_
          simp only [List.drop_succ_cons, List.drop_zero, List.take_succ_cons, List.take_zero]
          go_wp2_with fail
          refine hK _ _ (by repeat (first | with_reducible exact Below.refl _ _ | (with_reducible refine Below.al ?_) | (with_reducible refine Below.drew ?_) | (with_reducible refine Below.set ?_ (by first | (simp; done) | omega | (simp; omega))) | (with_reducible refine Below.thru ?_ (by assumption)) | (with_reducible refine Below.chg ?_ (by assumption) (by first | (simp; done) | omega | (simp; omega))))) ?_
          clear hK K
          refine held_one (i := 6) (by kernel_rfl) fun K hK => ?_
          simp only [List.drop_succ_cons, List.drop_zero, List.take_succ_cons, List.take_zero]
          go_wp2_with fail
          refine hK _ _ (by repeat (first | with_reducible exact Below.refl _ _ | (with_reducible refine Below.al ?_) | (with_reducible refine Below.drew ?_) | (with_reducible refine Below.set ?_ (by first | (simp; done) | omega | (simp; omega))) | (with_reducible refine Below.thru ?_ (by assumption)) | (with_reducible refine Below.chg ?_ (by assumption) (by first | (simp; done) | omega | (simp; omega))))) ?_
          clear hK K
          refine held_done (by kernel_rfl) ?_
          go_wp2_with fail
          exact bodyPost_ret (v := .tuple #[val (((s[0]).toNat : Int), s.extract 2 (s[1]).toNat), .string (s.extract (s[1]).toNat s.size), .int .i64 0]) (by simp [results, Try.results137, go_sem, val, zero]; try rfl) rfl ⟨(s.extract (s[1]).toNat s.size), by first | rfl | exact hr.out, rfl, (by repeat (first | with_reducible exact Below.refl _ _ | (with_reducible refine Below.al ?_) | (with_reducible refine Below.drew ?_) | (with_reducible refine Below.set ?_ (by first | (simp; done) | omega | (simp; omega))) | (with_reducible refine Below.thru ?_ (by assumption)) | (with_reducible refine Below.chg ?_ (by assumption) (by first | (simp; done) | omega | (simp; omega)))))⟩
end Go.Proofs.Ytljgmephajocaaa.Opts
