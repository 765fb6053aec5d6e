/- The walks of numbers in writing: the answer of Num. -/
import Derived.Test.YtkphbgicffhceaaDoorWordNum
namespace Go.Proofs.YtkphbgicffhceaaDoor.Words
set_option linter.unusedSimpArgs false
set_option linter.unusedVariables false
open Go Go.RowKit Go.Proofs.YtkphbgicffhceaaDoor
attribute [local irreducible] Calls

theorem numV_none {l : List UInt8} (h : numF l 0 = none) : numV l = (0, false) := by
  unfold numV
  split
  · rfl
  · rw [h]; rfl
set_option maxRecDepth 100000 in
theorem rnum_any (s : ByteArray) (w : World) : Calls Tryd.prog 9 #[.string s] w (Ret w (.tuple #[.int .i64 (numV s.data.toList).1, .bool (numV s.data.toList).2])) := by
  obtain ⟨l, hl⟩ : ∃ l, l = s.data.toList := ⟨_, rfl⟩
  have hsz : l.length = s.size := by rw [hl]; simp
  rw [← hl]
  obtain ⟨v, hv⟩ : ∃ v, v = numV l := ⟨_, rfl⟩
  rw [← hv]
  have hv2 := hv
  unfold numV at hv2
  by_cases h1 : s.size < 1
  · have q1 : decide ((s.size : Int) < 1) = true := decide_eq_true (by omega)
    rw [if_pos (by omega)] at hv2
    subst hv2
    replace hv := Lib.hid hv
    replace hl := Lib.hid hl
    clear hsz
    go_enter Tryd.func9, Tryd.ntmps9
    go_wp2_with fail
    go_ret2
    exact Ret.mk rfl (by repeat (first | with_reducible exact Below.refl _ _ | (with_reducible refine Below.al ?_) | (with_reducible refine Below.drew ?_) | (with_reducible refine Below.set ?_ (by first | (simp; done) | omega | (simp; omega))) | (with_reducible refine Below.thru ?_ (by assumption)) | (with_reducible refine Below.chg ?_ (by assumption) (by first | (simp; done) | omega | (simp; omega)))))
  · have q1 : decide ((s.size : Int) < 1) = false := decide_eq_false (by omega)
    by_cases h15 : 15 < s.size
    · have q15 : decide ((15 : Int) < (s.size : Int)) = true := decide_eq_true (by omega)
      rw [if_pos (by omega)] at hv2
      subst hv2
      replace hv := Lib.hid hv
      replace hl := Lib.hid hl
      clear hsz
      go_enter Tryd.func9, Tryd.ntmps9
      go_wp2_with fail
      go_ret2
      exact Ret.mk rfl (by repeat (first | with_reducible exact Below.refl _ _ | (with_reducible refine Below.al ?_) | (with_reducible refine Below.drew ?_) | (with_reducible refine Below.set ?_ (by first | (simp; done) | omega | (simp; omega))) | (with_reducible refine Below.thru ?_ (by assumption)) | (with_reducible refine Below.chg ?_ (by assumption) (by first | (simp; done) | omega | (simp; omega)))))
    · have q15 : decide ((15 : Int) < (s.size : Int)) = false := decide_eq_false (by omega)
      have hpos : 0 < s.size := by omega
      have hc0 : s[0] = l[0]'(by omega) := at_list hl hpos (by omega)
      have hh : l.head? = some s[0] := by rw [hc0]; cases l with | nil => simp at hsz; omega | cons a t => rfl
      have hlead : leadZ l = (decide ((s[0]).toNat = 48) && decide (1 < s.size)) := by
        unfold leadZ
        rw [hh, hsz]
        congr 1
        simp only [Option.some.injEq, decide_eq_decide]
        exact ⟨fun h => by rw [h]; rfl, fun h => UInt8.toNat_inj.1 h⟩
      have hn15 : s.size ≤ 15 := by omega
      clear hh hc0
      replace hl := Lib.hid hl; replace hsz := Lib.hid hsz; replace hv := Lib.hid hv; replace hv2 := Lib.hid hv2; replace hlead := Lib.hid hlead
      go_enter Tryd.func9, Tryd.ntmps9
      go_wp2_with fail
      go_loopg [4, 5] s.size (fun g nv i wr => ∃ (j : Nat) (n : Int), j ≤ s.size ∧ Hid (g = s.size - j) ∧ nv = .int .i64 n ∧ i = .int .i64 j ∧ Hid (numF (l.take j) 0 = some n) ∧ Below w.heap.size w wr)
      case atStart => exact ⟨0, 0, by omega, Lib.hid rfl, rfl, rfl, Lib.hid rfl, (by repeat (first | with_reducible exact Below.refl _ _ | (with_reducible refine Below.al ?_) | (with_reducible refine Below.drew ?_) | (with_reducible refine Below.set ?_ (by first | (simp; done) | omega | (simp; omega))) | (with_reducible refine Below.thru ?_ (by assumption)) | (with_reducible refine Below.chg ?_ (by assumption) (by first | (simp; done) | omega | (simp; omega)))))⟩
      case round =>
        obtain ⟨j, n, hj, hg, rfl, rfl, hn, hbw⟩ := hrel
        by_cases hlt : j < s.size
        · have hjl : j < l.length := by have := hsz.out; omega
          have hcj : s[j] = l[j] := at_list hl.out hlt hjl
          have hnx := numF_take hjl hn.out
          have hbd := numF_15 hjl (by have := hsz.out; omega) hn.out
          have hfail := fun hb => numV_none (numF_bad hjl hn.out hb)
          obtain ⟨hn0, hn1⟩ := hbd
          rw [← hcj] at hnx hfail
          by_cases hb : badD s[j] = true
          · have hnone := hfail hb
            rw [← hv.out] at hnone
            subst hnone
            clear hnx hfail hn hcj
            by_cases hlo : (s[j]).toNat < 48
            · have k1 : decide (((s[j]).toNat : Int) < 48) = true := decide_eq_true (by omega)
              go_wp2_with fail
              go_ret2
              exact Ret.mk rfl (by repeat (first | with_reducible exact Below.refl _ _ | (with_reducible refine Below.al ?_) | (with_reducible refine Below.drew ?_) | (with_reducible refine Below.set ?_ (by first | (simp; done) | omega | (simp; omega))) | (with_reducible refine Below.thru ?_ (by assumption)) | (with_reducible refine Below.chg ?_ (by assumption) (by first | (simp; done) | omega | (simp; omega)))))
            · have k1 : decide (((s[j]).toNat : Int) < 48) = false := decide_eq_false (by omega)
              have k2 : decide ((57 : Int) < ((s[j]).toNat : Int)) = true := decide_eq_true (by unfold badD at hb; simp at hb; omega)
              go_wp2_with fail
              go_ret2
              exact Ret.mk rfl (by repeat (first | with_reducible exact Below.refl _ _ | (with_reducible refine Below.al ?_) | (with_reducible refine Below.drew ?_) | (with_reducible refine Below.set ?_ (by first | (simp; done) | omega | (simp; omega))) | (with_reducible refine Below.thru ?_ (by assumption)) | (with_reducible refine Below.chg ?_ (by assumption) (by first | (simp; done) | omega | (simp; omega)))))
          · have hb' : 48 ≤ (s[j]).toNat ∧ (s[j]).toNat ≤ 57 := by unfold badD at hb; simp at hb; omega
            rw [if_neg hb] at hnx
            clear hfail hn hcj hb
            obtain ⟨hb1, hb2⟩ := hb'
            have k1 : decide (((s[j]).toNat : Int) < 48) = false := decide_eq_false (by omega)
            have k2 : decide ((57 : Int) < ((s[j]).toNat : Int)) = false := decide_eq_false (by omega)
            replace hnx := Lib.hid hnx
            go_wp2_with fail
            go_roundg (s.size - (j + 1))
            case measure => have := hg.out; omega
            case rel => exact ⟨j + 1, 10 * n + (((s[j]).toNat : Int) - 48), by omega, Lib.hid rfl, by go_num, by go_num, hnx, (by repeat (first | with_reducible exact Below.refl _ _ | (with_reducible refine Below.al ?_) | (with_reducible refine Below.drew ?_) | (with_reducible refine Below.set ?_ (by first | (simp; done) | omega | (simp; omega))) | (with_reducible refine Below.thru ?_ (by assumption)) | (with_reducible refine Below.chg ?_ (by assumption) (by first | (simp; done) | omega | (simp; omega)))))⟩
        · obtain rfl : j = s.size := by omega
          have hn' : numF l 0 = some n := by have := hn.out; rwa [List.take_of_length_le (by have := hsz.out; omega)] at this
          have hpos : 0 < s.size := by omega
          have hvv : v = (if leadZ l = true then (0, false) else (n, true)) := by
            rw [hv2.out]
            by_cases hz : leadZ l = true
            · rw [if_pos (Or.inr (Or.inr hz)), if_pos hz]
            · rw [if_neg (by intro h; rcases h with h | h | h; have := hsz.out; omega; have := hsz.out; omega; exact hz h), if_neg hz, hn']; rfl
          clear hn
          by_cases h48 : (s[0]).toNat = 48
          · have k1 : (((s[0]).toNat : Int) == 48) = true := by rw [h48]; rfl
            by_cases h1s : 1 < s.size
            · have k2 : decide ((1 : Int) < (s.size : Int)) = true := decide_eq_true (by omega)
              rw [hlead.out, decide_eq_true h48, decide_eq_true h1s] at hvv
              rw [if_pos (by decide)] at hvv
              subst hvv
              replace hn' := Lib.hid hn'
              clear h48
              go_wp2_with fail
              go_ret2
              exact Ret.mk rfl (by repeat (first | with_reducible exact Below.refl _ _ | (with_reducible refine Below.al ?_) | (with_reducible refine Below.drew ?_) | (with_reducible refine Below.set ?_ (by first | (simp; done) | omega | (simp; omega))) | (with_reducible refine Below.thru ?_ (by assumption)) | (with_reducible refine Below.chg ?_ (by assumption) (by first | (simp; done) | omega | (simp; omega)))))
            · have k2 : decide ((1 : Int) < (s.size : Int)) = false := decide_eq_false (by omega)
              rw [hlead.out, decide_eq_false h1s, Bool.and_false] at hvv
              rw [if_neg (by decide)] at hvv
              subst hvv
              replace hn' := Lib.hid hn'
              clear h48
              go_wp2_with fail
              go_ret2
              exact Ret.mk rfl (by repeat (first | with_reducible exact Below.refl _ _ | (with_reducible refine Below.al ?_) | (with_reducible refine Below.drew ?_) | (with_reducible refine Below.set ?_ (by first | (simp; done) | omega | (simp; omega))) | (with_reducible refine Below.thru ?_ (by assumption)) | (with_reducible refine Below.chg ?_ (by assumption) (by first | (simp; done) | omega | (simp; omega)))))
          · have k1 : (((s[0]).toNat : Int) == 48) = false := by simp; omega
            rw [hlead.out, decide_eq_false h48, Bool.false_and] at hvv
            rw [if_neg (by decide)] at hvv
            subst hvv
            replace hn' := Lib.hid hn'
            clear h48
            go_wp2_with fail
            go_ret2
            exact Ret.mk rfl (by repeat (first | with_reducible exact Below.refl _ _ | (with_reducible refine Below.al ?_) | (with_reducible refine Below.drew ?_) | (with_reducible refine Below.set ?_ (by first | (simp; done) | omega | (simp; omega))) | (with_reducible refine Below.thru ?_ (by assumption)) | (with_reducible refine Below.chg ?_ (by assumption) (by first | (simp; done) | omega | (simp; omega)))))
end Go.Proofs.YtkphbgicffhceaaDoor.Words
