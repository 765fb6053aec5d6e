/- The walks of numbers in writing: words.Num, and its answer. -/
import Derived.Test.YtkphbgicffhceaaDoorShelf
import Derived.Test.YtkphbgicffhceaaDoorNear
import Derived.Test.YtkphbgicffhceaaDoorBase
import Derived.Lib.Hide
import Derived.Laws.RangeAny
import Derived.Deep.LoopGhost
import Derived.WalkSpells
namespace Go.Proofs.YtkphbgicffhceaaDoor.Words
set_option linter.unusedSimpArgs false
set_option linter.unusedVariables false
open Go Go.RowKit Go.Proofs.YtkphbgicffhceaaDoor
attribute [local irreducible] Calls

def badD (b : UInt8) : Bool := decide (b.toNat < 48) || decide (57 < b.toNat)
/-- The number that digits come to, behind n. -/
def numF : List UInt8 → Int → Option Int
  | [], n => some n
  | b :: t, n => if badD b = true then none else numF t (10 * n + ((b.toNat : Int) - 48))
def leadZ (l : List UInt8) : Bool := decide (l.head? = some 48) && decide (1 < l.length)
def numV (l : List UInt8) : Int × Bool :=
  if l.length < 1 ∨ 15 < l.length ∨ leadZ l = true then (0, false) else ((numF l 0).getD 0, (numF l 0).isSome)
theorem numF_app : ∀ (a b : List UInt8) (n : Int), numF (a ++ b) n = (numF a n).bind (numF b)
  | [], b, n => rfl
  | x :: a, b, n => by
    simp only [List.cons_append, numF]
    split
    · rfl
    · exact numF_app a b _
theorem numF_take {l : List UInt8} {j : Nat} (hj : j < l.length) {n : Int} (h : numF (l.take j) 0 = some n) : numF (l.take (j + 1)) 0 = (if badD l[j] = true then none else some (10 * n + ((l[j].toNat : Int) - 48))) := by
  rw [List.take_succ_eq_append_getElem hj, numF_app, h]
  simp only [Option.bind_some, numF]
theorem numF_bad {l : List UInt8} {j : Nat} (hj : j < l.length) {n : Int} (h : numF (l.take j) 0 = some n) (hb : badD l[j] = true) : numF l 0 = none := by
  have : l = l.take (j + 1) ++ l.drop (j + 1) := (List.take_append_drop _ _).symm
  rw [this, numF_app, numF_take hj h, if_pos hb]
  rfl
theorem numF_bd : ∀ (a : List UInt8) (n : Int) (k : Nat), 0 ≤ n → n < 10 ^ k → ∀ m, numF a n = some m → 0 ≤ m ∧ m < 10 ^ (k + a.length)
  | [], n, k, h0, h1, m, h => by obtain rfl := Option.some.inj h; exact ⟨h0, h1⟩
  | b :: t, n, k, h0, h1, m, h => by
    simp only [numF] at h
    split at h
    · cases h
    · rename_i hb
      have hd : 48 ≤ b.toNat ∧ b.toNat ≤ 57 := by unfold badD at hb; simp at hb; omega
      have := numF_bd t (10 * n + ((b.toNat : Int) - 48)) (k + 1) (by omega) (by rw [Int.pow_succ]; omega) m h
      rw [List.length_cons, show k + (t.length + 1) = k + 1 + t.length by omega]
      exact this
theorem numF_15 {l : List UInt8} {j : Nat} (hj : j < l.length) (hl : l.length ≤ 15) {n : Int} (h : numF (l.take j) 0 = some n) : 0 ≤ n ∧ n ≤ 99999999999999 := by
  obtain ⟨h0, h1⟩ := numF_bd (l.take j) 0 0 (by omega) (by simp) n h
  rw [List.length_take, Nat.zero_add, Nat.min_eq_left (by omega)] at h1
  have h2 : (10 : Nat) ^ j ≤ 10 ^ 14 := Nat.pow_le_pow_right (by omega) (by omega)
  have h3 : ((10 : Nat) ^ j : Nat) = ((10 : Int) ^ j) := by simp
  have h14 : (10 : Nat) ^ 14 = 100000000000000 := by decide
  omega

/-- A rune that does not begin with a byte of ASCII is none of ASCII. -/
theorem decode_big (s : ByteArray) (pos : Nat) (h : pos < s.size) (hb : 128 ≤ (s[pos]'h).toNat) : 128 ≤ (Utf8.decode s pos).1 := by
  have e : s.get! (pos + 0) = s[pos]'h := by
    show s.get! pos = _
    simp [ByteArray.get!, getElem!_pos, h]
    rfl
  simp only [Utf8.decode, e]
  rw [if_neg (by omega)]
  repeat' split
  all_goals simp_all [Utf8.runeError]
  all_goals omega

theorem at_list {s : ByteArray} {l : List UInt8} (hl : l = s.data.toList) {j : Nat} (hj : j < s.size) (hjl : j < l.length) : s[j] = l[j] := by subst hl; rfl
theorem str_ne {s : ByteArray} (h : 0 < s.size) : s.toList.isEmpty = false := by
  rw [ByteArray.toList_eq]
  cases hq : s.data.toList with
  | nil =>
    have : s.data.toList.length = s.size := by simp
    rw [hq] at this
    simp at this
    omega
  | cons a l => rfl
set_option maxRecDepth 100000 in
theorem num_any (s : ByteArray) (w : World) : Calls Tryd.prog 8 #[.string s] w (Ret w (.tuple #[.int .i64 (numV s.data.toList).1, .bool (numV s.data.toList).2])) := by
  obtain ⟨l, hl⟩ : ∃ l, l = s.data.toList := ⟨_, rfl⟩
  have hsz : l.length = s.size := by rw [hl]; simp
  rw [← hl]
  unfold numV
  by_cases h0 : s.size = 0
  · have hs : s = ⟨#[]⟩ := by
      cases s with | mk d => simp only [ByteArray.size] at h0; rw [Array.eq_empty_of_size_eq_zero h0]
    rw [if_pos (by omega)]
    subst hs
    clear hl hsz h0
    go_enter Tryd.func8, Tryd.ntmps8
    go_wp2_with fail
    go_ret2
    exact Ret.mk rfl (by repeat (first | with_reducible exact Below.refl _ _ | (with_reducible refine Below.al ?_) | (with_reducible refine Below.drew ?_) | (with_reducible refine Below.set ?_ (by first | (simp; done) | omega | (simp; omega))) | (with_reducible refine Below.thru ?_ (by assumption)) | (with_reducible refine Below.chg ?_ (by assumption) (by first | (simp; done) | omega | (simp; omega)))))
  · have hpos : 0 < s.size := by omega
    have hne : s.toList.isEmpty = false := str_ne hpos
    by_cases h15 : 15 < s.size
    · have q15 : decide ((15 : Int) < (s.size : Int)) = true := decide_eq_true (by omega)
      rw [if_pos (by omega)]
      replace hl := Lib.hid hl
      clear hsz
      go_enter Tryd.func8, Tryd.ntmps8
      go_wp2_with fail
      go_ret2
      exact Ret.mk rfl (by repeat (first | with_reducible exact Below.refl _ _ | (with_reducible refine Below.al ?_) | (with_reducible refine Below.drew ?_) | (with_reducible refine Below.set ?_ (by first | (simp; done) | omega | (simp; omega))) | (with_reducible refine Below.thru ?_ (by assumption)) | (with_reducible refine Below.chg ?_ (by assumption) (by first | (simp; done) | omega | (simp; omega)))))
    · have q15 : decide ((15 : Int) < (s.size : Int)) = false := decide_eq_false (by omega)
      have hc0 : s[0] = l[0]'(by omega) := at_list hl hpos (by omega)
      have hh : l.head? = some s[0] := by rw [hc0]; cases l with | nil => simp at hsz; omega | cons a t => rfl
      have hlead : leadZ l = (decide ((s[0]).toNat = 48) && decide (1 < s.size)) := by
        unfold leadZ
        rw [hh, hsz]
        congr 1
        simp only [Option.some.injEq, decide_eq_decide]
        exact ⟨fun h => by rw [h]; rfl, fun h => UInt8.toNat_inj.1 h⟩
      by_cases hz : (s[0]).toNat = 48 ∧ 1 < s.size
      · have q1 : decide ((1 : Int) < (s.size : Int)) = true := decide_eq_true (by omega)
        have q2 : (((s[0]).toNat : Int) == 48) = true := by rw [hz.1]; rfl
        rw [if_pos (Or.inr (Or.inr (by rw [hlead]; simp [hz])))]
        replace hl := Lib.hid hl
        clear hsz hh hc0 hlead hz
        go_enter Tryd.func8, Tryd.ntmps8
        go_wp2_with fail
        go_ret2
        exact Ret.mk rfl (by repeat (first | with_reducible exact Below.refl _ _ | (with_reducible refine Below.al ?_) | (with_reducible refine Below.drew ?_) | (with_reducible refine Below.set ?_ (by first | (simp; done) | omega | (simp; omega))) | (with_reducible refine Below.thru ?_ (by assumption)) | (with_reducible refine Below.chg ?_ (by assumption) (by first | (simp; done) | omega | (simp; omega)))))
      · have hlz : leadZ l = false := by rw [hlead]; simp only [Bool.and_eq_false_iff, decide_eq_false_iff_not]; omega
        rw [if_neg (by rw [hlz]; intro h; rcases h with h | h | h; omega; omega; cases h)]
        have hcond : ((((s[0]).toNat : Int) == 48) && decide ((1 : Int) < (s.size : Int))) = false := by
          simp only [Bool.and_eq_false_iff, beq_eq_false_iff_ne, decide_eq_false_iff_not]
          omega
        have hgo : (((s[0]).toNat : Int) == 48) = false ∨ ((((s[0]).toNat : Int) == 48) = true ∧ decide ((1 : Int) < (s.size : Int)) = false) := by
          simp only [beq_eq_false_iff_ne, beq_iff_eq, decide_eq_false_iff_not]
          omega
        clear hcond hh hc0 hlead hz hlz
        rcases hgo with q2 | ⟨q2, q1⟩
        · have hn15 : s.size ≤ 15 := by omega
          replace hl := Lib.hid hl; replace hsz := Lib.hid hsz
          go_enter Tryd.func8, Tryd.ntmps8
          go_wp2_with fail
          go_loopg [4] s.size (fun g nv wr => ∃ (j : Nat) (n : Int), j ≤ s.size ∧ Hid (g = s.size - j) ∧ nv = .int .i64 n ∧ Hid (numF (l.take j) 0 = some n) ∧ wr = w.iter s j)
          case atStart => exact ⟨0, 0, by omega, Lib.hid rfl, rfl, Lib.hid rfl, rfl⟩
          case round =>
            obtain ⟨j, n, hj, hg, rfl, hn, rfl⟩ := hrel
            by_cases hlt : j < s.size
            · have hjl : j < l.length := by have := hsz.out; omega
              have hcj : s[j] = l[j] := at_list hl.out hlt hjl
              have hnx := numF_take hjl hn.out
              have hbd := numF_15 hjl (by have := hsz.out; omega) hn.out
              have hfail := fun hb => numF_bad hjl hn.out hb
              obtain ⟨hn0, hn1⟩ := hbd
              rw [← hcj] at hnx hfail
              have hmu : (w.iter s j).iterPos w.heap.size = j := World.iterPos_iter w s j
              by_cases hb : badD s[j] = true
              · have hnone := hfail hb
                clear hnx hfail hn hcj
                by_cases h128 : (s[j]).toNat < 128
                · have hnext : ∀ ty, (Instr.next (.pointer (some ⟨w.heap.size, 0, none⟩)) true ty).run Tryd.prog (w.iter s j) = _ := fun ty => run_next_ascii w s j ty hlt h128
                  by_cases hlo : (s[j]).toNat < 48
                  · have k1 : decide (((s[j]).toNat : Int) < 48) = true := decide_eq_true (by omega)
                    replace hnone := Lib.hid hnone
                    go_wp2_with fail
                    go_ret2
                    rw [hnone.out]
                    exact Ret.mk rfl (Below.al (Below.refl _ _))
                  · have k1 : decide (((s[j]).toNat : Int) < 48) = false := decide_eq_false (by omega)
                    have k2 : decide ((57 : Int) < ((s[j]).toNat : Int)) = true := decide_eq_true (by unfold badD at hb; simp at hb; omega)
                    replace hnone := Lib.hid hnone
                    go_wp2_with fail
                    go_ret2
                    rw [hnone.out]
                    exact Ret.mk rfl (Below.al (Below.refl _ _))
                · have hbig := decode_big s j hlt (by omega)
                  have hnext : ∀ ty, (Instr.next (.pointer (some ⟨w.heap.size, 0, none⟩)) true ty).run Tryd.prog (w.iter s j) = _ := fun ty => run_next_any w s j ty hlt
                  have hle := decode_le s j
                  generalize (Utf8.decode s j).1 = c at *
                  generalize j + (Utf8.decode s j).2 = j2 at *
                  have k1 : decide ((c : Int) < 48) = false := decide_eq_false (by omega)
                  have k2 : decide ((57 : Int) < (c : Int)) = true := decide_eq_true (by omega)
                  replace hnone := Lib.hid hnone
                  go_wp2_with fail
                  go_ret2
                  rw [hnone.out]
                  exact Ret.mk rfl (Below.al (Below.refl _ _))
              · have hb' : 48 ≤ (s[j]).toNat ∧ (s[j]).toNat ≤ 57 := by unfold badD at hb; simp at hb; omega
                rw [if_neg hb] at hnx
                clear hfail hn hcj hb
                have hnext : ∀ ty, (Instr.next (.pointer (some ⟨w.heap.size, 0, none⟩)) true ty).run Tryd.prog (w.iter s j) = _ := fun ty => run_next_ascii w s j ty hlt (by omega)
                obtain ⟨c, hc⟩ : ∃ c : Nat, c = (s[j]).toNat := ⟨_, rfl⟩
                rw [← hc] at hnext hb' hnx
                have k1 : decide ((c : Int) < 48) = false := decide_eq_false (by omega)
                have k2 : decide ((57 : Int) < (c : Int)) = false := decide_eq_false (by omega)
                obtain ⟨hb1, hb2⟩ := hb'
                replace hnx := Lib.hid hnx; replace hc := Lib.hid hc
                go_wp2_with fail
                go_roundg (s.size - (j + 1))
                case measure => have := hg.out; omega
                case rel => exact ⟨j + 1, 10 * n + ((c : Int) - 48), by omega, Lib.hid rfl, by go_num, hnx, rfl⟩
            · obtain rfl : j = s.size := by omega
              have hnext : ∀ ty, (Instr.next (.pointer (some ⟨w.heap.size, 0, none⟩)) true ty).run Tryd.prog (w.iter s s.size) = _ := fun ty => run_next_end w s s.size ty (by omega)
              have hn' : numF l 0 = some n := by have := hn.out; rwa [List.take_of_length_le (by have := hsz.out; omega)] at this
              replace hn' := Lib.hid hn'
              clear hn
              go_wp2_with fail
              go_ret2
              rw [hn'.out]
              exact Ret.mk rfl (Below.al (Below.refl _ _))
        · have hn15 : s.size ≤ 15 := by omega
          replace hl := Lib.hid hl; replace hsz := Lib.hid hsz
          go_enter Tryd.func8, Tryd.ntmps8
          go_wp2_with fail
          go_loopg [4] s.size (fun g nv wr => ∃ (j : Nat) (n : Int), j ≤ s.size ∧ Hid (g = s.size - j) ∧ nv = .int .i64 n ∧ Hid (numF (l.take j) 0 = some n) ∧ wr = w.iter s j)
          case atStart => exact ⟨0, 0, by omega, Lib.hid rfl, rfl, Lib.hid rfl, rfl⟩
          case round =>
            obtain ⟨j, n, hj, hg, rfl, hn, rfl⟩ := hrel
            by_cases hlt : j < s.size
            · have hjl : j < l.length := by have := hsz.out; omega
              have hcj : s[j] = l[j] := at_list hl.out hlt hjl
              have hnx := numF_take hjl hn.out
              have hbd := numF_15 hjl (by have := hsz.out; omega) hn.out
              have hfail := fun hb => numF_bad hjl hn.out hb
              obtain ⟨hn0, hn1⟩ := hbd
              rw [← hcj] at hnx hfail
              have hmu : (w.iter s j).iterPos w.heap.size = j := World.iterPos_iter w s j
              by_cases hb : badD s[j] = true
              · have hnone := hfail hb
                clear hnx hfail hn hcj
                by_cases h128 : (s[j]).toNat < 128
                · have hnext : ∀ ty, (Instr.next (.pointer (some ⟨w.heap.size, 0, none⟩)) true ty).run Tryd.prog (w.iter s j) = _ := fun ty => run_next_ascii w s j ty hlt h128
                  by_cases hlo : (s[j]).toNat < 48
                  · have k1 : decide (((s[j]).toNat : Int) < 48) = true := decide_eq_true (by omega)
                    replace hnone := Lib.hid hnone
                    go_wp2_with fail
                    go_ret2
                    rw [hnone.out]
                    exact Ret.mk rfl (Below.al (Below.refl _ _))
                  · have k1 : decide (((s[j]).toNat : Int) < 48) = false := decide_eq_false (by omega)
                    have k2 : decide ((57 : Int) < ((s[j]).toNat : Int)) = true := decide_eq_true (by unfold badD at hb; simp at hb; omega)
                    replace hnone := Lib.hid hnone
                    go_wp2_with fail
                    go_ret2
                    rw [hnone.out]
                    exact Ret.mk rfl (Below.al (Below.refl _ _))
                · have hbig := decode_big s j hlt (by omega)
                  have hnext : ∀ ty, (Instr.next (.pointer (some ⟨w.heap.size, 0, none⟩)) true ty).run Tryd.prog (w.iter s j) = _ := fun ty => run_next_any w s j ty hlt
                  have hle := decode_le s j
                  generalize (Utf8.decode s j).1 = c at *
                  generalize j + (Utf8.decode s j).2 = j2 at *
                  have k1 : decide ((c : Int) < 48) = false := decide_eq_false (by omega)
                  have k2 : decide ((57 : Int) < (c : Int)) = true := decide_eq_true (by omega)
                  replace hnone := Lib.hid hnone
                  go_wp2_with fail
                  go_ret2
                  rw [hnone.out]
                  exact Ret.mk rfl (Below.al (Below.refl _ _))
              · have hb' : 48 ≤ (s[j]).toNat ∧ (s[j]).toNat ≤ 57 := by unfold badD at hb; simp at hb; omega
                rw [if_neg hb] at hnx
                clear hfail hn hcj hb
                have hnext : ∀ ty, (Instr.next (.pointer (some ⟨w.heap.size, 0, none⟩)) true ty).run Tryd.prog (w.iter s j) = _ := fun ty => run_next_ascii w s j ty hlt (by omega)
                obtain ⟨c, hc⟩ : ∃ c : Nat, c = (s[j]).toNat := ⟨_, rfl⟩
                rw [← hc] at hnext hb' hnx
                have k1 : decide ((c : Int) < 48) = false := decide_eq_false (by omega)
                have k2 : decide ((57 : Int) < (c : Int)) = false := decide_eq_false (by omega)
                obtain ⟨hb1, hb2⟩ := hb'
                replace hnx := Lib.hid hnx; replace hc := Lib.hid hc
                go_wp2_with fail
                go_roundg (s.size - (j + 1))
                case measure => have := hg.out; omega
                case rel => exact ⟨j + 1, 10 * n + ((c : Int) - 48), by omega, Lib.hid rfl, by go_num, hnx, rfl⟩
            · obtain rfl : j = s.size := by omega
              have hnext : ∀ ty, (Instr.next (.pointer (some ⟨w.heap.size, 0, none⟩)) true ty).run Tryd.prog (w.iter s s.size) = _ := fun ty => run_next_end w s s.size ty (by omega)
              have hn' : numF l 0 = some n := by have := hn.out; rwa [List.take_of_length_le (by have := hsz.out; omega)] at this
              replace hn' := Lib.hid hn'
              clear hn
              go_wp2_with fail
              go_ret2
              rw [hn'.out]
              exact Ret.mk rfl (Below.al (Below.refl _ _))
end Go.Proofs.YtkphbgicffhceaaDoor.Words
