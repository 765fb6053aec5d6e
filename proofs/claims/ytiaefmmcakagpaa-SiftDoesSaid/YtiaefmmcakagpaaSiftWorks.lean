/- The walks of the sift's statements' own functions: Same, works, Great; what an operation is. -/
import Derived.Test.YtiaefmmcakagpaaSiftPlain
import Derived.Test.YtiaefmmcakagpaaFits
import Derived.Test.YtiaefmmcakagpaaRd
namespace Go.Proofs.Ytiaefmmcakagpaa.Sift
set_option linter.unusedSimpArgs false
set_option linter.unusedVariables false
open Go Go.RowKit Go.Shelf Go.Proofs.Ytiaefmmcakagpaa
open Go.Proofs.Ytiaefmmcakagpaa.DockWait (El enc val encs dockA dock_open dock_parts dock_shut placed headV)
attribute [local irreducible] Calls

def eqD (a : Int) (s : ByteArray) (b : Int) (t : ByteArray) : Bool := a == b && s.toList == t.toList
theorem dgs_at {w : World} {a : Option Addr} {l : List Dg} (h : Rd w a (dgs l)) {n : Nat} (hn : l.length = n) (h0 : 0 < n) :
    ∃ b off, a = some ⟨b, off, none⟩ ∧ b < w.heap.size ∧ ∀ i (hi : i < l.length), w.cell? ⟨b, off + i * 2, none⟩ = some (.int .i64 l[i].1) ∧ w.cell? ⟨b, off + i * 2 + 1, none⟩ = some (.string l[i].2) := by
  obtain ⟨b, off, e, hb, hc⟩ := Rd.rows DockDg.enc_len (by omega) h hn h0
  exact ⟨b, off, e, hb, fun i hi => ⟨hc i hi 0 _ rfl, hc i hi 1 _ rfl⟩⟩
theorem eql_dg (w : World) (a b : Int) (s t : ByteArray) : (binOp .eql 45 (.agg #[.int .i64 a, .string s]) (.agg #[.int .i64 b, .string t])).run Try.prog w = .ok (.bool (eqD a s b t)) w := by
  have h1 : Try.prog.stoodInHeld 45 = false := by kernel_rfl
  rw [run_eql_struct]
  simp [go_sem, h1, eqD]
  by_cases e1 : a = b <;> by_cases e2 : s.toList = t.toList <;> simp [e1, e2]
theorem neq_dg (w : World) (a b : Int) (s t : ByteArray) : (binOp .neq 45 (.agg #[.int .i64 a, .string s]) (.agg #[.int .i64 b, .string t])).run Try.prog w = .ok (.bool (!eqD a s b t)) w := by
  have h1 : Try.prog.stoodInHeld 45 = false := by kernel_rfl
  rw [run_neq_struct]
  simp [go_sem, h1, eqD]
  by_cases e1 : a = b <;> by_cases e2 : s.toList = t.toList <;> simp [e1, e2]
set_option maxHeartbeats 400000 in
theorem same_any (l : List Dg) (n : Nat) (hl : l.length = n) (hn : n ≤ maxLen) (a : Option Addr) (cap : Nat) (a' : Option Addr) (cap' : Nat) (w : World) (h : Rd w a (dgs l)) (g : Rd w a' (dgs l)) :
    Calls Try.prog 27 #[.slice a n cap, .slice a' n cap'] w (Ret w (.bool true)) := by
  unfold maxLen at hn
  replace h := Lib.hid h; replace g := Lib.hid g; replace hl := Lib.hid hl
  go_enter Try.func27, Try.ntmps27
  go_wp2_with fail
  go_loopg [5] n (fun g i wr => ∃ k : Nat, k ≤ n ∧ g = n - k ∧ i = .int .i64 k ∧ Below w.heap.size w wr)
  case atStart => exact ⟨0, by omega, by omega, rfl, (by repeat (first | with_reducible exact Below.refl _ _ | (with_reducible refine Below.al ?_) | (with_reducible refine Below.drew ?_) | (with_reducible refine Below.set ?_ (by first | (simp; done) | omega | (simp; omega))) | (with_reducible refine Below.thru ?_ (by assumption)) | (with_reducible refine Below.chg ?_ (by assumption) (by first | (simp; done) | omega | (simp; omega)))))⟩
  case round =>
    obtain ⟨k, hk, hg, rfl, hbw⟩ := hrel
    by_cases hlt : k < n
    · have hkl : k < l.length := by have := hl.out; omega
      obtain ⟨b, off, rfl, hb, hc⟩ := dgs_at (h.out.below hbw) hl.out (by omega)
      obtain ⟨b', off', rfl, hb', hc'⟩ := dgs_at (g.out.below hbw) hl.out (by omega)
      obtain ⟨e0, e1⟩ := hc k hkl
      obtain ⟨f0, f1⟩ := hc' k hkl
      clear hc hc'
      generalize l[k] = d at *
      obtain ⟨dn, ds⟩ := d
      simp only at e0 e1 f0 f1
      have ee : eqD dn ds dn ds = true := by simp [eqD]
      go_wp2_with fail
      refine wp_region_near (by kernel_rfl) (by kernel_rfl) ?_
      intro hs
      repeat (go_big_quiet_step (fail))
      refine wpQuiet_nil ?_
      clear hs
      intro w2 hb2
      go_wp2_with fail
      go_roundg (n - (k + 1))
      case measure => omega
      case rel => exact ⟨k + 1, by omega, rfl, by go_num, (by repeat (first | with_reducible exact Below.refl _ _ | (with_reducible refine Below.al ?_) | (with_reducible refine Below.drew ?_) | (with_reducible refine Below.set ?_ (by first | (simp; done) | omega | (simp; omega))) | (with_reducible refine Below.thru ?_ (by assumption)) | (with_reducible refine Below.chg ?_ (by assumption) (by first | (simp; done) | omega | (simp; omega)))))⟩
    · go_wp2_with fail
      go_ret
      exact Ret.mk rfl (by repeat (first | with_reducible exact Below.refl _ _ | (with_reducible refine Below.al ?_) | (with_reducible refine Below.drew ?_) | (with_reducible refine Below.set ?_ (by first | (simp; done) | omega | (simp; omega))) | (with_reducible refine Below.thru ?_ (by assumption)) | (with_reducible refine Below.chg ?_ (by assumption) (by first | (simp; done) | omega | (simp; omega)))))

structure Op where
  kind : Int
  time : Int
  num : Int
  dat : ByteArray
def Op.d (o : Op) : Dg := (o.num, o.dat)
def encOp (o : Op) : List Value := [.int .i64 o.kind, .int .i64 o.time, .int .i64 o.num, .string o.dat]
theorem ops_in {w : World} {a : Option Addr} {len cap : Nat} (h : Fits w (.slice 4 (.cons 1 (.int .i64) (.cons 1 (.int .i64) (.cons 2 (.cons 1 (.int .i64) (.cons 1 .str .nil)) .nil)))) [.slice a len cap]) :
    len ≤ maxLen ∧ (a = none → len = 0) ∧ ∃ l : List Op, l.length = len ∧ (∀ x ∈ l, isI64 x.time ∧ isI64 x.num ∧ x.dat.size ≤ maxLen) ∧ Rd w a (l.flatMap encOp) :=
  rows_in (size := 4) encOp (by omega) (fun _ => rfl) (fun cs hf hlen => by
    obtain ⟨v, vs, rfl, f0, r0⟩ := fits_cons1 hf
    obtain ⟨n, rfl, wn⟩ := fits_int f0
    obtain ⟨v', vs', rfl, f1, r1⟩ := fits_cons1 r0
    obtain ⟨t, rfl, wt⟩ := fits_int f1
    obtain ⟨h2, f2, r2⟩ := r1
    have hl2 : vs'.length = 2 := by simpa using hlen
    rw [List.take_of_length_le (by omega)] at f2
    obtain ⟨_, _, rfl, g0, s0⟩ := fits_cons1 f2
    obtain ⟨_, _, rfl, g1, s1⟩ := fits_cons1 s0
    obtain ⟨m, rfl, wm⟩ := fits_int g0
    obtain ⟨s, rfl, ws⟩ := fits_str g1
    obtain rfl : _ = [] := s1
    exact ⟨⟨n, t, m, s⟩, rfl, bounds_i64 wt, bounds_i64 wm, ws⟩) h
theorem ops_at {w : World} {a : Option Addr} {l : List Op} (h : Rd w a (l.flatMap encOp)) {n : Nat} (hn : l.length = n) (h0 : 0 < n) :
    ∃ b off, a = some ⟨b, off, none⟩ ∧ b < w.heap.size ∧ ∀ i (hi : i < l.length), w.cell? ⟨b, off + i * 4, none⟩ = some (.int .i64 l[i].kind) ∧ w.cell? ⟨b, off + i * 4 + 1, none⟩ = some (.int .i64 l[i].time) ∧ w.cell? ⟨b, off + i * 4 + 2, none⟩ = some (.int .i64 l[i].num) ∧ w.cell? ⟨b, off + i * 4 + 3, none⟩ = some (.string l[i].dat) := by
  obtain ⟨b, off, e, hb, hc⟩ := Rd.rows (enc := encOp) (size := 4) (fun _ => rfl) (by omega) h hn h0
  exact ⟨b, off, e, hb, fun i hi => ⟨hc i hi 0 _ rfl, hc i hi 1 _ rfl, hc i hi 2 _ rfl, hc i hi 3 _ rfl⟩⟩

set_option maxHeartbeats 400000 in
theorem great_any (l : List Op) (n : Nat) (hl : l.length = n) (hn : n ≤ maxLen) (a : Option Addr) (cap : Nat) (w : World) (h : Rd w a (l.flatMap encOp)) (hs : ∀ x ∈ l, x.dat.size ≤ maxLen) :
    Calls Try.prog 20 #[.slice a n cap] w (fun e w' => ∃ b, e = .returned (.bool b) ∧ Below w.heap.size w w' ∧ (b = false → n ≤ 150)) := by
  unfold maxLen at hn hs
  replace h := Lib.hid h; replace hl := Lib.hid hl; replace hs := Lib.hid hs
  go_enter Try.func20, Try.ntmps20
  go_wp2_with fail
  go_loopg [3] n (fun g i wr => ∃ k : Nat, k ≤ n ∧ g = n - k ∧ i = .int .i64 k ∧ k ≤ 150 ∧ Below w.heap.size w wr)
  case atStart => exact ⟨0, by omega, by omega, rfl, by omega, (by repeat (first | with_reducible exact Below.refl _ _ | (with_reducible refine Below.al ?_) | (with_reducible refine Below.drew ?_) | (with_reducible refine Below.set ?_ (by first | (simp; done) | omega | (simp; omega))) | (with_reducible refine Below.thru ?_ (by assumption)) | (with_reducible refine Below.chg ?_ (by assumption) (by first | (simp; done) | omega | (simp; omega)))))⟩
  case round =>
    obtain ⟨k, hk, hg, rfl, hkk, hbw⟩ := hrel
    by_cases hlt : k < n
    · have hkl : k < l.length := by have := hl.out; omega
      obtain ⟨b, off, rfl, hb, hc⟩ := ops_at (h.out.below hbw) hl.out (by omega)
      obtain ⟨_, _, _, e3⟩ := hc k hkl
      have hsz := hs.out l[k] (List.getElem_mem hkl)
      clear hc
      generalize l[k] = o at *
      obtain ⟨o1, o2, o3, o4⟩ := o
      simp only at e3 hsz
      by_cases hq : k = 150
      · have q1 : decide ((150 : Int) ≤ (k : Int)) = true := decide_eq_true (by omega)
        go_wp2_with fail
        go_ret
        exact .inr ⟨rfl, (by repeat (first | with_reducible exact Below.refl _ _ | (with_reducible refine Below.al ?_) | (with_reducible refine Below.drew ?_) | (with_reducible refine Below.set ?_ (by first | (simp; done) | omega | (simp; omega))) | (with_reducible refine Below.thru ?_ (by assumption)) | (with_reducible refine Below.chg ?_ (by assumption) (by first | (simp; done) | omega | (simp; omega)))))⟩
      · have q1 : decide ((150 : Int) ≤ (k : Int)) = false := decide_eq_false (by omega)
        by_cases hq2 : 1000 < o4.size
        · have q2 : decide ((1000 : Int) < (o4.size : Int)) = true := decide_eq_true (by omega)
          go_wp2_with fail
          go_ret
          exact .inr ⟨rfl, (by repeat (first | with_reducible exact Below.refl _ _ | (with_reducible refine Below.al ?_) | (with_reducible refine Below.drew ?_) | (with_reducible refine Below.set ?_ (by first | (simp; done) | omega | (simp; omega))) | (with_reducible refine Below.thru ?_ (by assumption)) | (with_reducible refine Below.chg ?_ (by assumption) (by first | (simp; done) | omega | (simp; omega)))))⟩
        · have q2 : decide ((1000 : Int) < (o4.size : Int)) = false := decide_eq_false (by omega)
          go_wp2_with fail
          go_roundg (n - (k + 1))
          case measure => omega
          case rel => exact ⟨k + 1, by omega, rfl, by go_num, by omega, (by repeat (first | with_reducible exact Below.refl _ _ | (with_reducible refine Below.al ?_) | (with_reducible refine Below.drew ?_) | (with_reducible refine Below.set ?_ (by first | (simp; done) | omega | (simp; omega))) | (with_reducible refine Below.thru ?_ (by assumption)) | (with_reducible refine Below.chg ?_ (by assumption) (by first | (simp; done) | omega | (simp; omega)))))⟩
    · go_wp2_with fail
      go_ret
      exact ⟨false, rfl, (by repeat (first | with_reducible exact Below.refl _ _ | (with_reducible refine Below.al ?_) | (with_reducible refine Below.drew ?_) | (with_reducible refine Below.set ?_ (by first | (simp; done) | omega | (simp; omega))) | (with_reducible refine Below.thru ?_ (by assumption)) | (with_reducible refine Below.chg ?_ (by assumption) (by first | (simp; done) | omega | (simp; omega))))), fun _ => by omega⟩

theorem put1 : putM 0 [] (2, ⟨#[98]⟩) 9 = ((1, []), 0, [(2, ⟨#[98]⟩, 9)]) := by rfl
theorem put2 : putM 0 [(2, ⟨#[98]⟩, 9)] (1, ⟨#[97]⟩) 9 = ((0, [(1, ⟨#[97]⟩), (2, ⟨#[98]⟩)]), 2, []) := by rfl
theorem ex_at {P : Go.Program} {f : FuncId} {args : Array Value} {W w : World} {S0 : Nat → Prop} {l : List Asn} {p : Asn} {F : Value → Value} {L : Value → List Asn} (k : Nat) (H : St W S0 w l) (hk : l[k]? = some p)
    (h : ∀ S, p.holds w S → Calls P f args w (fun e w' => ∃ v', e = .returned (F v') ∧ St w S w' (L v'))) :
    Calls P f args w (fun e w' => ∃ v', e = .returned (F v') ∧ St W S0 w' (L v' ++ l.eraseIdx k)) := by
  obtain ⟨S1, a, _, c⟩ := H.at k hk
  exact (h S1 a).mono fun _ w' ⟨v', he, hst⟩ => ⟨v', he, c w' _ hst⟩
set_option maxRecDepth 100000 in
set_option maxHeartbeats 1000000 in
theorem works_law (w : World) : Calls Try.prog 19 #[] w (Ret w (.bool true)) := by
  go_enter Try.func19, Try.ntmps19
  go_wp2_with fail
  refine Calls.mono (new_any w) ?_
  rintro e w1 ⟨s, rfl, H1⟩
  have P1 := ex_at 0 H1 rfl fun S h => put_any s 0 [] (2, ⟨#[98]⟩) 9 (by simp) (by omega) (by unfold top; omega) (by simp) _ S h
  rw [put1] at P1
  clear H1
  replace P1 := Lib.hid P1
  go_wp2_with fail
  refine Calls.mono P1.out ?_
  rintro e w2 ⟨m1, rfl, H2⟩
  clear P1
  obtain ⟨a2, c2, rfl, _⟩ := St.slice (by omega) 0 H2 rfl
  have P2 := ex_at 1 H2 rfl fun S h => put_any s 0 [(2, ⟨#[98]⟩, 9)] (1, ⟨#[97]⟩) 9 (by simp) (by omega) (by unfold top; omega) (by simp [top]) _ S h
  rw [put2] at P2
  clear H2
  replace P2 := Lib.hid P2
  go_wp2_with fail
  refine Calls.mono P2.out ?_
  rintro e w3 ⟨m2, rfl, H3⟩
  clear P2
  obtain ⟨a3, c3, rfl, _⟩ := St.slice (by omega) 0 H3 rfl
  have hR := St.rd (by omega) 0 H3 rfl
  have H4 := H3.alloc [.int .i64 1, .string ⟨#[97]⟩, .int .i64 2, .string ⟨#[98]⟩] 45
  have hR4 := St.rd (by omega) 1 H4 rfl
  have P3 := same_any [(1, ⟨#[97]⟩), (2, ⟨#[98]⟩)] 2 rfl (by unfold maxLen; omega) a3 c3 (some ⟨w3.heap.size, 0, none⟩) 2 _ hR4 (H4.box 0 rfl).rd
  clear H3 hR hR4
  replace H4 := Lib.hid H4; replace P3 := Lib.hid P3
  go_wp2_with fail
  refine Calls.mono P3.out ?_
  rintro e w4 ⟨rfl, hb4⟩
  have H5 := H4.out.thru hb4
  obtain ⟨S6, hS6⟩ := H5.held 2 rfl
  have P5 := cursor_any s 2 [] _ S6 hS6
  clear P3 H4 hS6
  replace P5 := Lib.hid P5; replace H5 := Lib.hid H5
  go_wp2_with fail
  refine Calls.mono P5.out ?_
  rintro e w5 ⟨rfl, hb5⟩
  have H6 := H5.out.thru hb5
  clear P5 H5
  replace H6 := Lib.hid H6
  go_wp2_with fail
  go_ret
  exact H6.out.ret rfl
end Go.Proofs.Ytiaefmmcakagpaa.Sift
