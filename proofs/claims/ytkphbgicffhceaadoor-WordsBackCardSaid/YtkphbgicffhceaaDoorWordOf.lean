/- The walks of numbers in writing: words.Of, and its answer. -/
import Derived.Test.YtkphbgicffhceaaDoorWordNumRef
import Derived.Test.YtkphbgicffhceaaDoorMore
import Derived.Lib.ItoaLen
namespace Go.Proofs.YtkphbgicffhceaaDoor.Words
set_option linter.unusedSimpArgs false
set_option linter.unusedVariables false
open Go Go.RowKit Go.Proofs.YtkphbgicffhceaaDoor
attribute [local irreducible] Calls

def strL (l : List UInt8) : ByteArray := ⟨l.toArray⟩
theorem strL_size (l : List UInt8) : (strL l).size = l.length := by simp [strL, ByteArray.size]
theorem below_grow {w : World} {k : Nat} {os : Array Obj} : Below w.heap.size w (Go.Sort.grow (w.drewN k) os) := by
  refine ⟨rfl, rfl, rfl, ?_, fun b hb => ?_⟩
  · simp [Go.Sort.grow, World.drewN]
  · simp [Go.Sort.grow, World.drewN, Array.getElem?_append, hb]
theorem of_any (n : Int) (h : isI64 n) (w : World) (htab : Lib.TabIs Tryd.prog w "internal/strconv.uint64pow10" .u64 Lib.pow10Tab) : Calls Tryd.prog 10 #[.int .i64 n] w (Ret w (.string (strL (Lib.itoa n)))) := by
  have P := Tryd.strconv_Itoa n h.1 h.2 w htab
  replace P := Lib.hid P
  go_enter Tryd.func10, Tryd.ntmps10
  go_wp2_with fail
  refine Calls.mono P.out ?_
  rintro e w1 ⟨rfl, k, os, hw⟩
  have hb1 : Below w.heap.size w w1 := by rw [hw]; exact below_grow
  clear hw
  go_wp2_with fail
  go_ret
  exact Ret.mk rfl hb1

/-- The digits of u; none of 0. -/
def digs (u : Nat) : List UInt8 := if u = 0 then [] else Lib.decDigits u
theorem digs_step {u : Nat} (h : 0 < u) : digs u = digs (u / 10) ++ [UInt8.ofNat (48 + u % 10)] := by
  unfold digs
  rw [if_neg (by omega), Lib.decDigits]
  by_cases h10 : u < 10
  · rw [dif_pos h10, if_pos (by omega), Nat.mod_eq_of_lt h10]
    rfl
  · rw [dif_neg h10, if_neg (by omega)]
theorem digs_len (u : Nat) (h : u ≤ 9223372036854775808) : (digs u).length ≤ 20 := by
  unfold digs
  split
  · simp
  · rw [Lib.decDigits_length]; exact Lib.nDigits_le20 u (by omega)
/-- What is left of n behind some digits: its sign is that of n. -/
structure Left (n m : Int) (u : Nat) : Prop where
  abs : m.natAbs = u
  sg : (0 < n → 0 ≤ m) ∧ (n < 0 → m ≤ 0)
theorem strL_cons (x : UInt8) (l : List UInt8) : (ByteArray.mk #[x]) ++ strL l = strL (x :: l) := by
  apply ByteArray.ext
  simp [strL]
set_option maxRecDepth 100000 in
theorem rof_any (n : Int) (h : isI64 n) (w : World) : Calls Tryd.prog 11 #[.int .i64 n] w (Ret w (.string (strL (Lib.itoa n)))) := by
  by_cases h0 : n = 0
  · subst h0
    clear h
    have e : strL (Lib.itoa 0) = ⟨#[48]⟩ := by unfold Lib.itoa; rw [if_neg (by omega)]; show strL (Lib.decDigits 0) = _; rw [Lib.decDigits_one (by omega)]; rfl
    rw [e]
    clear e
    go_enter Tryd.func11, Tryd.ntmps11
    go_wp2_with fail
    go_ret
    exact Ret.mk rfl (by repeat (first | with_reducible exact Below.refl _ _ | (with_reducible refine Below.al ?_) | (with_reducible refine Below.drew ?_) | (with_reducible refine Below.set ?_ (by first | (simp; done) | omega | (simp; omega))) | (with_reducible refine Below.thru ?_ (by assumption)) | (with_reducible refine Below.chg ?_ (by assumption) (by first | (simp; done) | omega | (simp; omega)))))
  · have q0 : (n == 0) = false := by simpa using h0
    obtain ⟨h1, h2⟩ := h
    obtain ⟨D, hD⟩ : ∃ D, D = digs n.natAbs := ⟨_, rfl⟩
    have hDl : D.length ≤ 20 := by rw [hD]; exact digs_len _ (by omega)
    replace hD := Lib.hid hD; replace hDl := Lib.hid hDl; replace h0 := Lib.hid h0
    go_enter Tryd.func11, Tryd.ntmps11
    go_wp2_with fail
    go_loopg [3, 4] n.natAbs (fun g sv mv wr => ∃ (m : Int) (u : Nat) (acc : List UInt8), Hid (g = u) ∧ Hid (m.natAbs = u) ∧ Hid ((0 < n → 0 ≤ m) ∧ (n < 0 → m ≤ 0)) ∧ -9223372036854775808 ≤ m ∧ m ≤ 9223372036854775807 ∧ sv = .string (strL acc) ∧ mv = .int .i64 m ∧ Hid (digs u ++ acc = D) ∧ Below w.heap.size w wr)
    case atStart => exact ⟨n, n.natAbs, [], Lib.hid rfl, Lib.hid rfl, Lib.hid (by omega), h1, h2, rfl, rfl, Lib.hid (by rw [hD.out, List.append_nil]), (by repeat (first | with_reducible exact Below.refl _ _ | (with_reducible refine Below.al ?_) | (with_reducible refine Below.drew ?_) | (with_reducible refine Below.set ?_ (by first | (simp; done) | omega | (simp; omega))) | (with_reducible refine Below.thru ?_ (by assumption)) | (with_reducible refine Below.chg ?_ (by assumption) (by first | (simp; done) | omega | (simp; omega)))))⟩
    case round =>
      obtain ⟨m, u, acc, hg, hu, hs, hm1, hm2, rfl, rfl, hacc, hbw⟩ := hrel
      by_cases hm0 : m = 0
      · subst hm0
        have hu0 : u = 0 := by have := hu.out; omega
        have hacc' : acc = D := by have := hacc.out; rw [hu0] at this; exact this
        rw [hacc'] 
        clear hacc hu hs hg hacc'
        have hsz : (strL D).size = D.length := strL_size D
        have hDl' := hDl.out
        have hDn : D = Lib.decDigits n.natAbs := by rw [hD.out]; unfold digs; rw [if_neg (by have := h0.out; omega)]
        by_cases hneg : n < 0
        · have kn : decide (n < 0) = true := decide_eq_true hneg
          have hres : strL (Lib.itoa n) = ⟨#[45]⟩ ++ strL D := by
            unfold Lib.itoa
            rw [if_pos hneg, ← hDn]
            rfl
          clear hDn hneg
          replace hres := Lib.hid hres
          go_wp2_with fail
          go_ret
          exact Ret.mk (by rw [hres.out]; rfl) (by repeat (first | with_reducible exact Below.refl _ _ | (with_reducible refine Below.al ?_) | (with_reducible refine Below.drew ?_) | (with_reducible refine Below.set ?_ (by first | (simp; done) | omega | (simp; omega))) | (with_reducible refine Below.thru ?_ (by assumption)) | (with_reducible refine Below.chg ?_ (by assumption) (by first | (simp; done) | omega | (simp; omega)))))
        · have kn : decide (n < 0) = false := decide_eq_false hneg
          have hres : strL (Lib.itoa n) = strL D := by
            unfold Lib.itoa
            rw [if_neg hneg, hDn, show n.toNat = n.natAbs by omega]
          clear hDn hneg
          replace hres := Lib.hid hres
          go_wp2_with fail
          go_ret
          exact Ret.mk (by rw [hres.out]; rfl) (by repeat (first | with_reducible exact Below.refl _ _ | (with_reducible refine Below.al ?_) | (with_reducible refine Below.drew ?_) | (with_reducible refine Below.set ?_ (by first | (simp; done) | omega | (simp; omega))) | (with_reducible refine Below.thru ?_ (by assumption)) | (with_reducible refine Below.chg ?_ (by assumption) (by first | (simp; done) | omega | (simp; omega)))))
      · have qm : (m == 0) = false := by simpa using hm0
        have qm' : (m != 0) = true := by simpa using hm0
        have hu0 : 0 < u := by have := hu.out; omega
        have hstep := digs_step hu0
        have hd10 : u % 10 < 10 := Nat.mod_lt _ (by omega)
        obtain ⟨d, hd⟩ : ∃ d, d = u % 10 := ⟨_, rfl⟩
        rw [← hd] at hstep hd10
        have hmod : m.tmod 10 = (d : Int) ∨ (m.tmod 10 = -(d : Int) ∧ 0 < d) := by
          rcases Int.lt_or_le m 0 with h | h
          · obtain rfl : m = -(u : Int) := by have := hu.out; omega
            rw [Int.neg_tmod, Int.tmod_eq_emod_of_nonneg (by omega)]
            omega
          · obtain rfl : m = (u : Int) := by have := hu.out; omega
            rw [Int.tmod_eq_emod_of_nonneg (by omega)]
            omega
        obtain ⟨m', hm'⟩ : ∃ m', m' = m.tdiv 10 := ⟨_, rfl⟩
        have hdiv : m'.natAbs = u / 10 ∧ ((0 < n → 0 ≤ m') ∧ (n < 0 → m' ≤ 0)) ∧ -9223372036854775808 ≤ m' ∧ m' ≤ 9223372036854775807 := by
          have hs := hs.out
          have h0 := h0.out
          rw [hm']
          rcases Int.lt_or_le m 0 with h | h
          · obtain rfl : m = -(u : Int) := by have := hu.out; omega
            rw [Int.neg_tdiv, Int.tdiv_eq_ediv_of_nonneg (by omega)]
            omega
          · obtain rfl : m = (u : Int) := by have := hu.out; omega
            rw [Int.tdiv_eq_ediv_of_nonneg (by omega)]
            omega
        obtain ⟨hu', hs', hm1', hm2'⟩ := hdiv
        have hacc2 : digs (u / 10) ++ (UInt8.ofNat (48 + d) :: acc) = D := by rw [← hacc.out, hstep, List.append_assoc]; rfl
        have hlen : acc.length ≤ 20 := by have h1 := congrArg List.length hacc.out; rw [List.length_append] at h1; have := hDl.out; omega
        have hsz : (strL acc).size = acc.length := strL_size acc
        have hsz1 : (ByteArray.mk #[UInt8.ofNat (48 + d)]).size = 1 := rfl
        have E1 := (St.zero wr).alloc [.int .u8 (((48 + d : Nat)) : Int)] 5
        have hstr := run_byte (P := Tryd.prog) _ _ _ Tryd.underlying39 Tryd.underlying5 Tryd.underlying9 (by omega : 48 + d < 256) (E1.box 0 rfl)
        have e48 : ((48 + d : Nat) : Int) = 48 + (d : Int) := by omega
        rw [e48] at hstr
        obtain ⟨x, hx⟩ : ∃ x, x = UInt8.ofNat (48 + d) := ⟨_, rfl⟩
        rw [← hx] at hstr hacc2 hsz1
        replace hx := Lib.hid hx
        have hq : m.tdiv 10 = m' := hm'.symm
        have hudiv : u / 10 < u := by omega
        clear hstep hm' E1 hd hu hs hacc e48
        replace hu' := Lib.hid hu'; replace hs' := Lib.hid hs'; replace hacc2 := Lib.hid hacc2; replace hudiv := Lib.hid hudiv
        rcases hmod with hmod | ⟨hmod, hd0⟩
        · go_wp2_with fail
          go_roundg (u / 10)
          case measure => have := hg.out; have := hudiv.out; omega
          case rel => exact ⟨m', u / 10, x :: acc, Lib.hid rfl, hu', hs', hm1', hm2', by rw [strL_cons], rfl, hacc2, (by repeat (first | with_reducible exact Below.refl _ _ | (with_reducible refine Below.al ?_) | (with_reducible refine Below.drew ?_) | (with_reducible refine Below.set ?_ (by first | (simp; done) | omega | (simp; omega))) | (with_reducible refine Below.thru ?_ (by assumption)) | (with_reducible refine Below.chg ?_ (by assumption) (by first | (simp; done) | omega | (simp; omega)))))⟩
        · have kd : decide (-(d : Int) < 0) = true := decide_eq_true (by omega)
          go_wp2_with fail
          go_roundg (u / 10)
          case measure => have := hg.out; have := hudiv.out; omega
          case rel => exact ⟨m', u / 10, x :: acc, Lib.hid rfl, hu', hs', hm1', hm2', by rw [strL_cons], rfl, hacc2, (by repeat (first | with_reducible exact Below.refl _ _ | (with_reducible refine Below.al ?_) | (with_reducible refine Below.drew ?_) | (with_reducible refine Below.set ?_ (by first | (simp; done) | omega | (simp; omega))) | (with_reducible refine Below.thru ?_ (by assumption)) | (with_reducible refine Below.chg ?_ (by assumption) (by first | (simp; done) | omega | (simp; omega)))))⟩
end Go.Proofs.YtkphbgicffhceaaDoor.Words
