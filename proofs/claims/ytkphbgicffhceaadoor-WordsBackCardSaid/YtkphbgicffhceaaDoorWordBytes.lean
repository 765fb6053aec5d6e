/- The walks of bytes in writing: Bytes, and its answer; Side, Name. -/
import Derived.Test.YtkphbgicffhceaaDoorWordHalf
namespace Go.Proofs.YtkphbgicffhceaaDoor.Words
set_option linter.unusedSimpArgs false
set_option linter.unusedVariables false
open Go Go.RowKit Go.Proofs.YtkphbgicffhceaaDoor
attribute [local irreducible] Calls

theorem strL_inj {s : ByteArray} {l : List UInt8} (h : s.data.toList = l) : s = strL l := by
  cases s with | mk d => unfold strL; rw [← h]
theorem at_eq {s : ByteArray} {l : List UInt8} (hl : l = s.data.toList) {j m : Nat} (hj : j < s.size) (hm : m < l.length) (e : j = m) : s[j] = l[m] := by
  subst e
  exact at_list hl hj hm
theorem or_16 : ∀ x y : _root_.Fin 16, bits .or .u8 ((x.val : Int) * 16) (y.val : Int) = ((16 * x.val + y.val : Nat) : Int) := by decide +kernel
set_option maxRecDepth 100000 in
theorem bytes_any (s : ByteArray) (hs : s.size ≤ 2010) (w : World) : Calls Tryd.prog 17 #[.string s] w (Ret w (.tuple #[.string (strL (bytesV s.data.toList).1), .bool (bytesV s.data.toList).2])) := by
  obtain ⟨l, hl⟩ : ∃ l, l = s.data.toList := ⟨_, rfl⟩
  have hsz : l.length = s.size := by rw [hl]; simp
  rw [← hl]
  obtain ⟨r, ok, hv⟩ : ∃ r ok, bytesV l = (r, ok) := ⟨_, _, rfl⟩
  rw [hv]
  unfold bytesV at hv
  simp only
  by_cases hd : l = [45]
  · have hse : s = ⟨#[45]⟩ := strL_inj (by rw [← hl, hd])
    rw [if_pos hd] at hv
    obtain ⟨rfl, rfl⟩ := Prod.mk.inj hv
    subst hse
    clear hl hsz hd hv
    go_enter Tryd.func17, Tryd.ntmps17
    go_wp2_with fail
    go_ret2
    exact Ret.mk rfl (by repeat (first | with_reducible exact Below.refl _ _ | (with_reducible refine Below.al ?_) | (with_reducible refine Below.drew ?_) | (with_reducible refine Below.set ?_ (by first | (simp; done) | omega | (simp; omega))) | (with_reducible refine Below.thru ?_ (by assumption)) | (with_reducible refine Below.chg ?_ (by assumption) (by first | (simp; done) | omega | (simp; omega)))))
  · rw [if_neg hd] at hv
    have hse : ¬ s = ⟨#[45]⟩ := fun e => hd (by rw [hl, e])
    have kd' : decide (s = ⟨#[45]⟩) = false := decide_eq_false hse
    have kd2 : (s.toList == [45]) = false := by rw [ByteArray.toList_eq, ← hl]; exact beq_eq_false_iff_ne.2 hd
    by_cases h0 : s.size = 0
    · have hs0 : s = ⟨#[]⟩ := by
        cases s with | mk d => simp only [ByteArray.size] at h0; rw [Array.eq_empty_of_size_eq_zero h0]
      rw [if_pos (Or.inl (List.eq_nil_of_length_eq_zero (by omega)))] at hv
      obtain ⟨rfl, rfl⟩ := Prod.mk.inj hv
      subst hs0
      clear hl hsz h0 hd hse kd' kd2 hv
      go_enter Tryd.func17, Tryd.ntmps17
      go_wp2_with fail
      go_ret2
      exact Ret.mk rfl (by repeat (first | with_reducible exact Below.refl _ _ | (with_reducible refine Below.al ?_) | (with_reducible refine Below.drew ?_) | (with_reducible refine Below.set ?_ (by first | (simp; done) | omega | (simp; omega))) | (with_reducible refine Below.thru ?_ (by assumption)) | (with_reducible refine Below.chg ?_ (by assumption) (by first | (simp; done) | omega | (simp; omega)))))
    · have hne : s.toList.isEmpty = false := str_ne (by omega)
      have hlne : l ≠ [] := by intro h; rw [h] at hsz; simp at hsz; omega
      clear hd
      by_cases hodd : s.size % 2 = 1
      · have k2 : ((s.size : Int) % 2 != 0) = true := by simp; omega
        rw [if_pos (Or.inr (by omega))] at hv
        obtain ⟨rfl, rfl⟩ := Prod.mk.inj hv
        clear hv
        replace hl := Lib.hid hl; replace hlne := Lib.hid hlne; replace hse := Lib.hid hse; replace hsz := Lib.hid hsz; replace hodd := Lib.hid hodd
        go_enter Tryd.func17, Tryd.ntmps17
        go_wp2_with fail
        go_ret2
        exact Ret.mk rfl (by repeat (first | with_reducible exact Below.refl _ _ | (with_reducible refine Below.al ?_) | (with_reducible refine Below.drew ?_) | (with_reducible refine Below.set ?_ (by first | (simp; done) | omega | (simp; omega))) | (with_reducible refine Below.thru ?_ (by assumption)) | (with_reducible refine Below.chg ?_ (by assumption) (by first | (simp; done) | omega | (simp; omega)))))
      · have k2 : (s.size : Int) % 2 = 0 := by omega
        rw [if_neg (by rintro (h | h); exact hlne h; omega)] at hv
        replace hl := Lib.hid hl; replace hlne := Lib.hid hlne; replace hse := Lib.hid hse; replace hsz := Lib.hid hsz; replace hodd := Lib.hid hodd; replace hv := Lib.hid hv
        go_enter Tryd.func17, Tryd.ntmps17
        go_wp2_with fail
        obtain ⟨i0, hi, hz0, hz1, hz2⟩ := info_parts byte_info
        obtain ⟨M, hM⟩ : ∃ M, s.size = 2 * M := ⟨s.size / 2, by have := hodd.out; omega⟩
        replace hM := Lib.hid hM
        clear hodd k2
        go_loopg [4, 5] M (fun g bv i wr => ∃ (k j : Nat) (a : Option Addr) (c : Nat) (rk : List UInt8), k ≤ M ∧ Hid (g = M - k) ∧ Hid (j = 2 * k) ∧ i = .int .i64 j ∧ bv = .slice a k c ∧ Hid (bytesF (l.take (2 * k)) = some rk) ∧ Hid (St w none0 wr [rowA 1 (.slice a k c) k (rk.map byteVal)]))
        case atStart => exact ⟨0, 0, none, 0, [], by omega, Lib.hid rfl, Lib.hid rfl, rfl, rfl, Lib.hid rfl, Lib.hid ((St.zero w).row_nil)⟩
        case round =>
          obtain ⟨k, j, a, c, rk, hk, hg, hj, rfl, rfl, hrk, HL⟩ := hrel
          by_cases hlt : k < M
          · have hj0 : j < s.size := by have := hM.out; have := hj.out; omega
            have hj1 : j + 1 < s.size := by have := hM.out; have := hj.out; omega
            have hjl : 2 * k + 1 < l.length := by have := hsz.out; have := hj.out; omega
            have hc0 : s[j] = l[2 * k] := at_eq hl.out hj0 (by omega) hj.out
            have hc1 : s[j + 1] = l[2 * k + 1] := at_eq hl.out hj1 hjl (by rw [hj.out])
            have hbad := fun hx => bytes_bad hjl hrk.out hx
            have hstep := fun x y hx hy => bytes_step (x := x) (y := y) hjl hrk.out hx hy
            rw [← hc0, ← hc1] at hbad hstep
            have q : decide ((j : Int) < (s.size : Int)) = true := decide_eq_true (by omega)
            have b0 : (s[j]).toNat < 256 := UInt8.toNat_lt _
            have b1 : (s[j + 1]).toNat < 256 := UInt8.toNat_lt _
            have P1 := fun w => half_any (s[j]).toNat b0 w
            have P2 := fun w => half_any (s[j + 1]).toNat b1 w
            clear hc0 hc1
            by_cases hbb : hvN (s[j]).toNat = none ∨ hvN (s[j + 1]).toNat = none
            · have hnone := hbad hbb
              have hv2 := hv.out
              rw [hnone] at hv2
              obtain ⟨rfl, rfl⟩ := Prod.mk.inj hv2
              clear hbad hstep hv hv2 hnone hrk
              replace P1 := Lib.hid P1; replace P2 := Lib.hid P2
              cases h1 : hvN (s[j]).toNat with
              | none =>
                rw [h1] at P1
                simp only [Option.getD_none, Option.isSome_none] at P1
                clear h1 hbb
                go_wp2_with fail
                refine Calls.mono (P1.out _) ?_
                rintro e w2 ⟨rfl, hb2⟩
                have H2 := Lib.hid (HL.out.thru hb2)
                clear P1
                go_wp2_with fail
                refine Calls.mono (P2.out _) ?_
                rintro e w3 ⟨rfl, hb3⟩
                have H3 := Lib.hid (H2.out.thru hb3)
                clear P2
                go_wp2_with fail
                go_ret2
                exact Ret.mk rfl H3.out.below
              | some x =>
                have h2 : hvN (s[j + 1]).toNat = none := by rcases hbb with h | h; rw [h1] at h; cases h; exact h
                rw [h1] at P1
                rw [h2] at P2
                simp only [Option.getD_none, Option.isSome_none] at P2
                simp only [Option.getD_some, Option.isSome_some] at P1
                clear h1 h2 hbb
                go_wp2_with fail
                refine Calls.mono (P1.out _) ?_
                rintro e w2 ⟨rfl, hb2⟩
                have H2 := Lib.hid (HL.out.thru hb2)
                clear P1
                go_wp2_with fail
                refine Calls.mono (P2.out _) ?_
                rintro e w3 ⟨rfl, hb3⟩
                have H3 := Lib.hid (H2.out.thru hb3)
                clear P2
                go_wp2_with fail
                go_ret2
                exact Ret.mk rfl H3.out.below
            · obtain ⟨x, h1⟩ : ∃ x, hvN (s[j]).toNat = some x := by
                cases h : hvN (s[j]).toNat with
                | none => exact absurd (Or.inl h) hbb
                | some x => exact ⟨x, rfl⟩
              obtain ⟨y, h2⟩ : ∃ y, hvN (s[j + 1]).toNat = some y := by
                cases h : hvN (s[j + 1]).toNat with
                | none => exact absurd (Or.inr h) hbb
                | some x => exact ⟨x, rfl⟩
              have hst := hstep x y h1 h2
              obtain ⟨hx16, _⟩ := hv_dig h1
              obtain ⟨hy16, _⟩ := hv_dig h2
              rw [h1] at P1
              rw [h2] at P2
              simp only [Option.getD_some, Option.isSome_some] at P1 P2
              clear h1 h2 hbb hbad hstep
              have hor := or_16 ⟨x, hx16⟩ ⟨y, hy16⟩
              simp only at hor
              have he256 : 16 * x + y < 256 := by omega
              have hbv : byteVal (UInt8.ofNat (16 * x + y)) = .int .u8 ((16 * x + y : Nat) : Int) := by
                unfold byteVal
                rw [UInt8.toNat_ofNat', Nat.mod_eq_of_lt he256]
              obtain ⟨z, hz⟩ : ∃ z, z = UInt8.ofNat (16 * x + y) := ⟨_, rfl⟩
              rw [← hz] at hst hbv
              generalize 16 * x + y = e0 at *
              have hkk : k ≤ 1005 := by have := hM.out; omega
              clear hz
              replace P1 := Lib.hid P1; replace P2 := Lib.hid P2; replace hst := Lib.hid hst; replace hbv := Lib.hid hbv
              go_wp2_with fail
              refine Calls.mono (P1.out _) ?_
              rintro e w2 ⟨rfl, hb2⟩
              have H2 := Lib.hid (HL.out.thru hb2)
              clear P1
              go_wp2_with fail
              refine Calls.mono (P2.out _) ?_
              rintro e w3 ⟨rfl, hb3⟩
              have H3 := Lib.hid (H2.out.thru hb3)
              clear P2 H2 HL
              go_wp2_with (at_builtin; (refine wpList_appS rfl (.tmp 47) (.tmp 52) _ rfl 5 i0 _ 1 1 Tryd.underlying39 hi hz0 hz1 hz2 rfl (by omega) 0 _ k (rk.map byteVal) rfl H3.out rfl 1 1 [.int .u8 e0] rfl rfl (by simp [Value.oneCell']) (by omega) (by omega) ?_; intro v5 w5 H5; obtain ⟨l5, c5, rfl, _⟩ := St.slice (by omega) 0 H5 rfl; replace H5 := Lib.hid H5))
              go_roundg (M - (k + 1))
              case measure => have := hg.out; omega
              case rel =>
                refine ⟨k + 1, j + 2, l5, c5, rk ++ [z], by omega, Lib.hid rfl, Lib.hid (by rw [hj.out]; omega), by go_num, rfl, hst, Lib.hid ?_⟩
                rw [List.map_append, List.map_cons, List.map_nil, hbv.out]
                exact H5.out.drops 1
          · obtain rfl : k = M := by omega
            have hjs : j = s.size := by have := hj.out; have := hM.out; omega
            subst hjs
            have q : decide ((s.size : Int) < (s.size : Int)) = false := decide_eq_false (by omega)
            have hall : l.take (2 * k) = l := List.take_of_length_le (by have := hsz.out; have := hM.out; omega)
            have hb := hrk.out
            rw [hall] at hb
            have hv2 := hv.out
            rw [hb] at hv2
            obtain ⟨rfl, rfl⟩ := Prod.mk.inj hv2
            have hlen : rk.length = k := by have := bytesF_len _ _ hb; have := hsz.out; have := hM.out; omega
            have hstr := run_str (P := Tryd.prog) 0 _ _ _ Tryd.underlying39 Tryd.underlying5 Tryd.underlying9 _ rk k hlen.symm (HL.out.row 0 rfl)
            have hres : strL rk = ⟨rk.toArray⟩ := rfl
            rw [← hres] at hstr
            clear hres hall hb hv hv2 hrk
            replace hlen := Lib.hid hlen
            simp only [Option.getD_some, Option.isSome_some]
            go_wp2_with fail
            go_ret2
            exact Ret.mk rfl HL.out.below
end Go.Proofs.YtkphbgicffhceaaDoor.Words
