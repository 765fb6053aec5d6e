/- The walk of anabranchlaw11.same. -/
import Derived.Test.YtpajedpkdfacoaaMpSay
import Derived.Test.YtpajedpkdfacoaaOptsSame
namespace Go.Proofs.Ytpajedpkdfacoaa.Mp
set_option linter.unusedSimpArgs false
set_option linter.unusedVariables false
open Go Go.RowKit Go.Shelf Go.Proofs.Ytpajedpkdfacoaa Go.Proofs.Ytpajedpkdfacoaa.Octets
attribute [local irreducible] Calls

def eqM (x y : Mu) : Bool := x.kind == y.kind && x.addr == y.addr && x.prio == y.prio && x.num == y.num && x.token == y.token && x.nonce == y.nonce && x.dat.toList == y.dat.toList
theorem neq_op (w : World) (x y : Mu) : (binOp .neq 23 (.agg (encM x).toArray) (.agg (encM y).toArray)).run Try.prog w = .ok (.bool (!eqM x y)) w := by
  have h1 : Try.prog.stoodInHeld 23 = false := by kernel_rfl
  obtain ⟨x0, x1, x2, x3, x4, x5, x6⟩ := x
  obtain ⟨y0, y1, y2, y3, y4, y5, y6⟩ := y
  simp only [encM]
  rw [run_neq_struct]
  simp [go_sem, h1, eqM]
  by_cases e0 : x0 = y0
  case neg => simp [e0]
  by_cases e1 : x1 = y1
  case neg => simp [e0, e1]
  by_cases e2 : x2 = y2
  case neg => simp [e0, e1, e2]
  by_cases e3 : x3 = y3
  case neg => simp [e0, e1, e2, e3]
  by_cases e4 : x4 = y4
  case neg => simp [e0, e1, e2, e3, e4]
  by_cases e5 : x5 = y5
  case neg => simp [e0, e1, e2, e3, e4, e5]
  by_cases e6 : x6.toList = y6.toList
  case neg => simp [e0, e1, e2, e3, e4, e5, e6]
  simp [e0, e1, e2, e3, e4, e5, e6]
theorem eqM_iff (x y : Mu) : eqM x y = true ↔ x = y := by
  obtain ⟨x0, x1, x2, x3, x4, x5, x6⟩ := x
  obtain ⟨y0, y1, y2, y3, y4, y5, y6⟩ := y
  unfold eqM
  simp only [Bool.and_eq_true, beq_iff_eq, ByteArray.toList_eq, Mu.mk.injEq]
  constructor
  · rintro ⟨⟨⟨⟨⟨⟨h0, h1⟩, h2⟩, h3⟩, h4⟩, h5⟩, h6⟩
    exact ⟨h0, h1, h2, h3, h4, h5, Go.Proofs.Ytpajedpkdfacoaa.Opts.arr_ext h6⟩
  · rintro ⟨rfl, rfl, rfl, rfl, rfl, rfl, rfl⟩
    simp
theorem eqM_self (x : Mu) : eqM x x = true := (eqM_iff x x).2 rfl
theorem neq_lit (w : World) (x0 x1 x2 x3 x4 x5 : Int) (x6 : ByteArray) (y0 y1 y2 y3 y4 y5 : Int) (y6 : ByteArray) :
    (binOp .neq 23 (.agg #[.int .i64 x0, .int .i64 x1, .int .i64 x2, .int .i64 x3, .int .i64 x4, .int .i64 x5, .string x6]) (.agg #[.int .i64 y0, .int .i64 y1, .int .i64 y2, .int .i64 y3, .int .i64 y4, .int .i64 y5, .string y6])).run Try.prog w = .ok (.bool (!eqM ⟨x0, x1, x2, x3, x4, x5, x6⟩ ⟨y0, y1, y2, y3, y4, y5, y6⟩)) w := neq_op w ⟨x0, x1, x2, x3, x4, x5, x6⟩ ⟨y0, y1, y2, y3, y4, y5, y6⟩
attribute [go_sem ↓] neq_lit
set_option maxRecDepth 100000 in
set_option maxHeartbeats 1000000 in
/-- Two lists that are the same. -/
theorem same_self (l : List Mu) (n k : Nat) (hl : l.length = n) (hk : n = k) (hn : n ≤ 3000) (a b : Option Addr) (ca cb : Nat) (w : World) (ha : Rd w a (encMs l)) (hb : Rd w b (encMs l)) :
    Calls Try.prog 15 #[.slice a n ca, .slice b k cb] w (Ret w (.bool true)) := by
  subst hk
  have q : ((n : Int) != (n : Int)) = false := by simp
  replace ha := Lib.hid ha; replace hb := Lib.hid hb; replace hl := Lib.hid hl
  go_enter Try.func15, Try.ntmps15
  go_wp2_with fail
  go_loopg [5] n (fun g i wr => ∃ j : Nat, j ≤ n ∧ g = n - j ∧ i = .int .i64 j ∧ Below w.heap.size w wr)
  case atStart => exact ⟨0, by omega, by omega, rfl, (by repeat (first | with_reducible exact Below.refl _ _ | (with_reducible refine Below.al ?_) | (with_reducible refine Below.drew ?_) | (with_reducible refine Below.set ?_ (by first | (simp; done) | omega | (simp; omega))) | (with_reducible refine Below.thru ?_ (by assumption)) | (with_reducible refine Below.chg ?_ (by assumption) (by first | (simp; done) | omega | (simp; omega)))))⟩
  case round =>
    obtain ⟨j, hj, hg, rfl, hbw⟩ := hrel
    by_cases hlt : j < n
    · have hjl : j < l.length := by have := hl.out; omega
      obtain ⟨b1, o1, rfl, hb1, hc1⟩ := mus_at (ha.out.below hbw) hl.out (by omega)
      obtain ⟨e0, e1, e2, e3, e4, e5, e6⟩ := hc1 j hjl
      obtain ⟨b2, o2, rfl, hb2, hc2⟩ := mus_at (hb.out.below hbw) hl.out (by omega)
      obtain ⟨f0, f1, f2, f3, f4, f5, f6⟩ := hc2 j hjl
      have hq := eqM_self l[j]
      clear hc1 hc2
      generalize l[j] = x at *
      obtain ⟨x0, x1, x2, x3, x4, x5, x6⟩ := x
      simp only at e0 e1 e2 e3 e4 e5 e6 f0 f1 f2 f3 f4 f5 f6
      go_wp2_with fail
      refine wp_region_near (by kernel_rfl) (by kernel_rfl) ?_
      intro hs
      repeat (go_big_quiet_step (fail))
      refine wpQuiet_nil ?_
      clear hs
      intro w1 hb3
      have hbw2 := hbw.trans (hb3.mono hbw.size)
      clear hb3
      go_wp2_with fail
      go_roundg (n - (j + 1))
      case measure => omega
      case rel => exact ⟨j + 1, by omega, rfl, by go_num, hbw2⟩
    · obtain rfl : j = n := by omega
      go_wp2_with fail
      go_ret
      exact Ret.mk rfl hbw
end Go.Proofs.Ytpajedpkdfacoaa.Mp
