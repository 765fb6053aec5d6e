/- The walks of the package channel that only read, and of the document's answers for it: numbers, rising. -/
import Derived.Test.YthodfihdmhkgeaaRd
import Derived.Deep.LoopGhost
import Derived.Deep.DeepCutAuto
import Derived.Deep.RegionHeld3
namespace Go.Proofs.Ythodfihdmhkgeaa.Chan
set_option linter.unusedSimpArgs false
set_option linter.unusedVariables false
open Go Go.RowKit Go.Proofs.Ythodfihdmhkgeaa
attribute [local irreducible] Calls

/-- A datagram: its number, its data. -/
abbrev Dg := Int × ByteArray
def enc (d : Dg) : List Value := [.int .i64 d.1, .string d.2]
def dgs (l : List Dg) : List Value := l.flatMap enc
theorem enc_len (d : Dg) : (enc d).length = 2 := rfl
/-- '==' of two datagrams. -/
def eqD (a : Int) (s : ByteArray) (b : Int) (t : ByteArray) : Bool := a == b && s.toList == t.toList
def dgEq (a b : Dg) : Bool := eqD a.1 a.2 b.1 b.2
theorem eql_dg (w : World) (a b : Int) (s t : ByteArray) : (binOp .eql 32 (.agg #[.int .i64 a, .string s]) (.agg #[.int .i64 b, .string t])).run Try.prog w = .ok (.bool (eqD a s b t)) w := by
  have h1 : Try.prog.stoodInHeld 32 = false := by kernel_rfl
  rw [run_eql_struct]
  simp [go_sem, h1, eqD]
  by_cases e1 : a = b <;> by_cases e2 : s.toList = t.toList <;> simp [e1, e2]
theorem neq_dg (w : World) (a b : Int) (s t : ByteArray) : (binOp .neq 32 (.agg #[.int .i64 a, .string s]) (.agg #[.int .i64 b, .string t])).run Try.prog w = .ok (.bool (!eqD a s b t)) w := by
  have h1 : Try.prog.stoodInHeld 32 = false := by kernel_rfl
  rw [run_neq_struct]
  simp [go_sem, h1, eqD]
  by_cases e1 : a = b <;> by_cases e2 : s.toList = t.toList <;> simp [e1, e2]
attribute [go_sem ↓] eql_dg neq_dg
def good (d : Dg) : Prop := isI64 d.1 ∧ d.2.size ≤ maxLen

theorem dgEq_comm (a b : Dg) : dgEq a b = dgEq b a := by
  unfold dgEq eqD
  rw [Bool.beq_comm (a := a.1), Bool.beq_comm (a := a.2.toList)]
theorem dgEq_iff (a b : Dg) : dgEq a b = true ↔ a = b := by
  unfold dgEq eqD
  rw [Bool.and_eq_true, beq_iff_eq, beq_iff_eq]
  constructor
  · rintro ⟨h1, h2⟩
    refine Prod.ext h1 (ByteArray.ext (Array.toList_inj.1 ?_))
    simpa [ByteArray.toList_eq] using h2
  · rintro rfl; exact ⟨rfl, rfl⟩
theorem dgs_in {w : World} {a : Option Addr} {len cap : Nat} (h : Fits w (.slice 2 (.cons 1 (.int .i64) (.cons 1 .str .nil))) [.slice a len cap]) :
    len ≤ maxLen ∧ (a = none → len = 0) ∧ ∃ l : List Dg, l.length = len ∧ (∀ x ∈ l, good x) ∧ Rd w a (dgs l) :=
  rows_in (size := 2) enc (by omega) enc_len (fun cs hf _ => by
    obtain ⟨_, _, rfl, f0, r0⟩ := fits_cons1 hf
    obtain ⟨_, _, rfl, f1, r1⟩ := fits_cons1 r0
    obtain ⟨n, rfl, wn⟩ := fits_int f0
    obtain ⟨s, rfl, ws⟩ := fits_str f1
    obtain rfl : _ = [] := r1
    exact ⟨(n, s), rfl, bounds_i64 wn, ws⟩) h
theorem dgs_at {w : World} {a : Option Addr} {l : List Dg} (h : Rd w a (dgs l)) {n : Nat} (hn : l.length = n) (h0 : 0 < n) :
    ∃ b off, a = some ⟨b, off, none⟩ ∧ b < w.heap.size ∧ ∀ i (hi : i < l.length), w.cell? ⟨b, off + i * 2, none⟩ = some (.int .i64 l[i].1) ∧ w.cell? ⟨b, off + i * 2 + 1, none⟩ = some (.string l[i].2) := by
  obtain ⟨b, off, e, hb, hc⟩ := Rd.rows enc_len (by omega) h hn h0
  exact ⟨b, off, e, hb, fun i hi => ⟨hc i hi 0 _ rfl, hc i hi 1 _ rfl⟩⟩

/-- Rising among the first k. -/
def up (l : List Dg) (k : Nat) : Prop := ∀ i j (hi : i < l.length) (hj : j < l.length), i < j → j < k → l[i].1 < l[j].1
def risingB (l : List Dg) : Bool := decide (l.Pairwise fun a b => a.1 < b.1)
theorem up_one (l : List Dg) (k : Nat) (h : k ≤ 1) : up l k := fun i j _ _ h1 h2 => by omega
theorem up_step {l : List Dg} {k : Nat} (h : up l k) (hk : k < l.length) (h1 : 1 ≤ k) (hlt : l[k - 1].1 < l[k].1) : up l (k + 1) := by
  intro i j hi hj h2 h3
  by_cases e : j = k
  · subst e
    by_cases e' : i = j - 1
    · subst e'; exact hlt
    · have := h i (j - 1) hi (by omega) (by omega) (by omega)
      omega
  · exact h i j hi hj h2 (by omega)
theorem up_next {l : List Dg} {k : Nat} (h : up l k) (hk : k < l.length) (hlt : ∀ i (hi : i < l.length), i < k → l[i].1 < l[k].1) : up l (k + 1) := by
  intro i j hi hj h2 h3
  by_cases e : j = k
  · subst e; exact hlt i hi h2
  · exact h i j hi hj h2 (by omega)
theorem up_all {l : List Dg} {k : Nat} (h : up l k) (hk : l.length ≤ k) : risingB l = true :=
  decide_eq_true (List.pairwise_iff_getElem.2 fun i j hi hj hij => h i j hi hj hij (by omega))
theorem up_not {l : List Dg} {i j : Nat} (hi : i < l.length) (hj : j < l.length) (hij : i < j) (h : ¬ l[i].1 < l[j].1) : risingB l = false :=
  decide_eq_false fun hp => h (List.pairwise_iff_getElem.1 hp i j hi hj hij)

set_option maxHeartbeats 400000 in
theorem rising_any (l : List Dg) (n : Nat) (hl : l.length = n) (hn : n ≤ maxLen) (a : Option Addr) (cap : Nat) (w : World) (h : Rd w a (dgs l)) :
    Calls Try.prog 17 #[.slice a n cap] w (Ret w (.bool (risingB l))) := by
  unfold maxLen at hn
  have H := Lib.hid h
  have HL := Lib.hid hl
  clear h hl
  go_enter Try.func17, Try.ntmps17
  go_wp2_with fail
  go_loopg [3] (n - 1) (fun g i wr => ∃ k : Nat, 1 ≤ k ∧ k ≤ n + 1 ∧ g = n - k ∧ i = .int .i64 k ∧ Below w.heap.size w wr ∧ Hid (up l k))
  case atStart => exact ⟨1, by omega, by omega, by omega, rfl, Below.refl _ _, up_one l 1 (by omega)⟩
  case round =>
    obtain ⟨k, hk1, hk, hg, rfl, hbw, hup⟩ := hrel
    by_cases hlt : k < n
    · have hkl : k < l.length := by have := HL.out; omega
      have hkl' : k - 1 < l.length := by omega
      obtain ⟨b, off, rfl, hb, hc⟩ := dgs_at (H.out.below hbw) HL.out (by omega)
      have e0 := (hc k hkl).1
      have e1 := (hc (k - 1) hkl').1
      clear hc
      have q0 : IntKind.i64.wrap ((k : Int) - 1) = ((k - 1 : Nat) : Int) := by rw [IntWalk.i64_in _ (by omega)]; omega
      by_cases hr : l[k - 1].1 < l[k].1
      · have hup' := up_step hup.out hkl hk1 hr
        replace hup' := Lib.hid hup'
        have q : decide (l[k].1 ≤ l[k - 1].1) = false := decide_eq_false (by omega)
        go_wp2_with fail
        refine wp_region_near (by kernel_rfl) (by kernel_rfl) ?_
        intro hs
        repeat (go_big_quiet_step (fail))
        refine wpQuiet_nil ?_
        clear hs
        intro w2 hb2
        go_wp2_with fail
        go_roundg (n - (k + 1))
        case measure => omega
        case rel => exact ⟨k + 1, by omega, by omega, rfl, by go_num, (by repeat (first | with_reducible exact Below.refl _ _ | (with_reducible refine Below.al ?_) | (with_reducible refine Below.drew ?_) | (with_reducible refine Below.set ?_ (by first | (simp; done) | omega | (simp; omega))) | (with_reducible refine Below.thru ?_ (by assumption)) | (with_reducible refine Below.chg ?_ (by assumption) (by first | (simp; done) | omega | (simp; omega))))), hup'⟩
      · have hf := up_not hkl' hkl (by omega) hr
        rw [hf]
        have q : decide (l[k].1 ≤ l[k - 1].1) = true := decide_eq_true (by omega)
        go_wp2_with fail
        refine wp_region_near (by kernel_rfl) (by kernel_rfl) ?_
        intro hs
        repeat (go_big_quiet_step (fail))
        refine wpQuiet_nil ?_
        clear hs
        intro w2 hb2
        go_wp2_with fail
        go_ret
        exact Ret.mk rfl (by repeat (first | with_reducible exact Below.refl _ _ | (with_reducible refine Below.al ?_) | (with_reducible refine Below.drew ?_) | (with_reducible refine Below.set ?_ (by first | (simp; done) | omega | (simp; omega))) | (with_reducible refine Below.thru ?_ (by assumption)) | (with_reducible refine Below.chg ?_ (by assumption) (by first | (simp; done) | omega | (simp; omega)))))
    · have hf := up_all hup.out (by have := HL.out; omega)
      replace hf := Lib.hid hf
      go_wp2_with fail
      go_ret
      exact Ret.mk (congrArg Value.bool hf.out.symm) (by repeat (first | with_reducible exact Below.refl _ _ | (with_reducible refine Below.al ?_) | (with_reducible refine Below.drew ?_) | (with_reducible refine Below.set ?_ (by first | (simp; done) | omega | (simp; omega))) | (with_reducible refine Below.thru ?_ (by assumption)) | (with_reducible refine Below.chg ?_ (by assumption) (by first | (simp; done) | omega | (simp; omega)))))

set_option maxHeartbeats 400000 in
theorem rrising_any (l : List Dg) (n : Nat) (hl : l.length = n) (hn : n ≤ maxLen) (a : Option Addr) (cap : Nat) (w : World) (h : Rd w a (dgs l)) :
    Calls Try.prog 18 #[.slice a n cap] w (Ret w (.bool (risingB l))) := by
  unfold maxLen at hn
  have H := Lib.hid h
  have HL := Lib.hid hl
  clear h hl
  go_enter Try.func18, Try.ntmps18
  go_wp2_with fail
  go_loopg [3, 4] n (fun g i _ wr => ∃ k : Nat, k ≤ n ∧ g = n - k ∧ i = .int .i64 k ∧ Below w.heap.size w wr ∧ Hid (up l k))
  case atStart => exact ⟨0, by omega, by omega, rfl, Below.refl _ _, up_one l 0 (by omega)⟩
  case round =>
    obtain ⟨k, hk, hg, rfl, hbw, hup⟩ := hrel
    by_cases hlt : k < n
    · have hkl0 : k < l.length := by have := HL.out; omega
      obtain ⟨wo, hwo⟩ : ∃ wo : World, wo = wr := ⟨_, rfl⟩
      subst hwo
      go_wp2_with fail
      go_loopg [4] k (fun g i wr => ∃ j : Nat, j ≤ k ∧ g = k - j ∧ i = .int .i64 j ∧ Below w.heap.size w wr ∧ Hid (∀ i (hi : i < l.length), i < j → l[i].1 < l[k].1))
      case atStart => exact ⟨0, by omega, by omega, rfl, hbw, fun i _ h => by omega⟩
      case round =>
        obtain ⟨j, hj, hg', rfl, hbw', hin⟩ := hrel
        by_cases hjk : j < k
        · have hkl : k < l.length := by have := HL.out; omega
          have hjl : j < l.length := by omega
          obtain ⟨b, off, rfl, hb, hc⟩ := dgs_at (H.out.below hbw') HL.out (by omega)
          have e0 := (hc k hkl).1
          have e1 := (hc j hjl).1
          clear hc
          by_cases hr : l[j].1 < l[k].1
          · have hin' : Hid (∀ i (hi : i < l.length), i < j + 1 → l[i].1 < l[k].1) := fun i hi h => by
              by_cases e : i = j
              · subst e; exact hr
              · exact hin.out i hi (by omega)
            have q : decide (l[k].1 ≤ l[j].1) = false := decide_eq_false (by omega)
            go_wp2_with fail
            refine wp_region_near (by kernel_rfl) (by kernel_rfl) ?_
            intro hs
            repeat (go_big_quiet_step (fail))
            refine wpQuiet_nil ?_
            clear hs
            intro w2 hb2
            go_wp2_with fail
            go_roundg (k - (j + 1))
            case measure => omega
            case rel => exact ⟨j + 1, by omega, rfl, by go_num, (by repeat (first | with_reducible exact Below.refl _ _ | (with_reducible refine Below.al ?_) | (with_reducible refine Below.drew ?_) | (with_reducible refine Below.set ?_ (by first | (simp; done) | omega | (simp; omega))) | (with_reducible refine Below.thru ?_ (by assumption)) | (with_reducible refine Below.chg ?_ (by assumption) (by first | (simp; done) | omega | (simp; omega))))), hin'⟩
          · have hf := up_not hjl hkl hjk hr
            have q : decide (l[k].1 ≤ l[j].1) = true := decide_eq_true (by omega)
            replace hf := Lib.hid hf
            go_wp2_with fail
            refine wp_region_near (by kernel_rfl) (by kernel_rfl) ?_
            intro hs
            repeat (go_big_quiet_step (fail))
            refine wpQuiet_nil ?_
            clear hs
            intro w2 hb2
            go_wp2_with fail
            go_ret
            exact Ret.mk (congrArg Value.bool hf.out.symm) (by repeat (first | with_reducible exact Below.refl _ _ | (with_reducible refine Below.al ?_) | (with_reducible refine Below.drew ?_) | (with_reducible refine Below.set ?_ (by first | (simp; done) | omega | (simp; omega))) | (with_reducible refine Below.thru ?_ (by assumption)) | (with_reducible refine Below.chg ?_ (by assumption) (by first | (simp; done) | omega | (simp; omega)))))
        · have hup' := up_next hup.out hkl0 (fun i hi h => hin.out i hi (by omega))
          replace hup' := Lib.hid hup'
          go_wp2_with fail
          go_roundg (n - (k + 1))
          case measure => omega
          case rel => exact ⟨k + 1, by omega, rfl, by go_num, hbw', hup'⟩
    · have hf := up_all hup.out (by have := HL.out; omega)
      replace hf := Lib.hid hf
      go_wp2_with fail
      go_ret
      exact Ret.mk (congrArg Value.bool hf.out.symm) (by repeat (first | with_reducible exact Below.refl _ _ | (with_reducible refine Below.al ?_) | (with_reducible refine Below.drew ?_) | (with_reducible refine Below.set ?_ (by first | (simp; done) | omega | (simp; omega))) | (with_reducible refine Below.thru ?_ (by assumption)) | (with_reducible refine Below.chg ?_ (by assumption) (by first | (simp; done) | omega | (simp; omega)))))
end Go.Proofs.Ythodfihdmhkgeaa.Chan
