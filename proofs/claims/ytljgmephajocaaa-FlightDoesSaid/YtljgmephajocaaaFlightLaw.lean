/- The steps of the statements on the flight, as arguments; Great; works. -/
import Derived.Test.YtljgmephajocaaaFlightTaken
import Derived.Test.YtljgmephajocaaaFits
namespace Go.Proofs.Ytljgmephajocaaa.Flight
set_option linter.unusedSimpArgs false
set_option linter.unusedVariables false
open Go Go.RowKit Go.Shelf Go.Proofs.Ytljgmephajocaaa Go.Proofs.Ytljgmephajocaaa.DockSPtr Go.Proofs.Ytljgmephajocaaa.Circ Go.Proofs.Ytljgmephajocaaa.Avec
attribute [local irreducible] Calls

structure Fo where
  kind : Int
  seq : Int
  now : Int
  runs_ : List Run
  a : Option Addr
  cap : Nat
def encO (x : Fo) : List Value := [.int .i64 x.kind, .int .i64 x.seq, .int .i64 x.now, .slice x.a x.runs_.length x.cap]
theorem encO_len (x : Fo) : (encO x).length = 4 := rfl
def RdO (w : World) (a : Option Addr) (l : List Fo) : Prop := Rd w a (l.flatMap encO) ∧ ∀ x ∈ l, Rd w x.a (runs x.runs_)
theorem RdO.below {w w' : World} {a : Option Addr} {l : List Fo} (h : RdO w a l) (hb : Below w.heap.size w w') : RdO w' a l := ⟨h.1.below hb, fun x hx => (h.2 x hx).below hb⟩
theorem fos_at {w : World} {a : Option Addr} {l : List Fo} (h : RdO w a l) {j : Nat} (hj : j < l.length) :
    ∃ b off, a = some ⟨b, off, none⟩ ∧ b < w.heap.size ∧ w.cell? ⟨b, off + j * 4, none⟩ = some (.int .i64 l[j].kind) ∧ w.cell? ⟨b, off + j * 4 + 1, none⟩ = some (.int .i64 l[j].seq) ∧ w.cell? ⟨b, off + j * 4 + 2, none⟩ = some (.int .i64 l[j].now) ∧ w.cell? ⟨b, off + j * 4 + 3, none⟩ = some (.slice l[j].a l[j].runs_.length l[j].cap) := by
  obtain ⟨b, off, e, hb, hc⟩ := Rd.rows encO_len (by omega) h.1 rfl (by omega)
  exact ⟨b, off, e, hb, hc j hj 0 _ rfl, hc j hj 1 _ rfl, hc j hj 2 _ rfl, hc j hj 3 _ rfl⟩
theorem fo_in {w : World} {cs : List Value} (h : Fits w (.cons 1 (.int .i64) (.cons 1 (.int .i64) (.cons 1 (.int .i64) (.cons 1 (.slice 2 (.cons 1 (.int .i64) (.cons 1 (.int .i64) .nil))) .nil)))) cs) : ∃ x : Fo, encO x = cs ∧ (x.runs_.length ≤ maxLen ∧ Rd w x.a (runs x.runs_)) := by
  obtain ⟨_, _, rfl, f0, r0⟩ := fits_cons1 h
  obtain ⟨_, _, rfl, f1, r1⟩ := fits_cons1 r0
  obtain ⟨_, _, rfl, f2, r2⟩ := fits_cons1 r1
  obtain ⟨v1, _, rfl, f3, r3⟩ := fits_cons1 r2
  obtain ⟨kind, rfl, _⟩ := fits_int f0
  obtain ⟨seq, rfl, _⟩ := fits_int f1
  obtain ⟨now, rfl, _⟩ := fits_int f2
  obtain rfl : _ = [] := r3
  obtain ⟨a, n, cap, rfl⟩ : ∃ a n cap, v1 = .slice a n cap := by
    have f2 := f3
    rcases f2 with h | ⟨x, l, c, h, _⟩
    · simp at h; exact ⟨_, _, _, h⟩
    · simp at h; exact ⟨_, _, _, h⟩
  obtain ⟨hn, _, l, hl, _, hR⟩ := runs_in f3
  exact ⟨⟨kind, seq, now, l, a, cap⟩, by rw [← hl]; rfl, by rw [hl]; exact hn, hR⟩
theorem fos_in {w : World} {a : Option Addr} {len cap : Nat} (h : Fits w (.slice 4 (.cons 1 (.int .i64) (.cons 1 (.int .i64) (.cons 1 (.int .i64) (.cons 1 (.slice 2 (.cons 1 (.int .i64) (.cons 1 (.int .i64) .nil))) .nil))))) [.slice a len cap]) :
    len ≤ maxLen ∧ ∃ l : List Fo, l.length = len ∧ (∀ x ∈ l, x.runs_.length ≤ maxLen) ∧ RdO w a l := by
  obtain ⟨h1, _, l, h3, h4, h5⟩ := rows_in (size := 4) encO (by omega) encO_len (fun cs hf _ => fo_in hf) h
  exact ⟨h1, l, h3, fun x hx => (h4 x hx).1, h5, fun x hx => (h4 x hx).2⟩
def bigO (l : List Fo) : Bool := decide (100 < l.length) || l.any fun x => decide (10 < x.runs_.length)
theorem bigO_no {l : List Fo} (h : bigO l = false) : l.length ≤ 100 ∧ ∀ x ∈ l, x.runs_.length ≤ 10 := by
  unfold bigO at h
  simp only [Bool.or_eq_false_iff, decide_eq_false_iff_not, List.any_eq_false] at h
  exact ⟨by omega, fun o ho => by have := h.2 o ho; simp at this; omega⟩
set_option maxRecDepth 100000 in
set_option maxHeartbeats 400000 in
theorem great_any (L : List Fo) (n : Nat) (hl : L.length = n) (hn : n ≤ maxLen) (hgood : ∀ o ∈ L, o.runs_.length ≤ maxLen) (a : Option Addr) (cap : Nat) (w : World) (h : RdO w a L) :
    Calls Try.prog 30 #[.slice a n cap] w (Ret w (.bool (bigO L))) := by
  unfold maxLen at hn
  replace h := Lib.hid h; replace hl := Lib.hid hl; replace hgood := Lib.hid hgood
  go_enter Try.func30, Try.ntmps30
  go_wp2_with fail
  go_loopg [3] n (fun g i wr => ∃ j : Nat, j ≤ n ∧ g = n - j ∧ i = .int .i64 j ∧ j ≤ 100 ∧ Below w.heap.size w wr ∧ Hid (∀ i (hi : i < L.length), i < j → L[i].runs_.length ≤ 10))
  case atStart => exact ⟨0, by omega, by omega, rfl, by omega, (by repeat (first | with_reducible exact Below.refl _ _ | (with_reducible refine Below.al ?_) | (with_reducible refine Below.drew ?_) | (with_reducible refine Below.set ?_ (by first | (simp; done) | omega | (simp; omega))) | (with_reducible refine Below.thru ?_ (by assumption)) | (with_reducible refine Below.chg ?_ (by assumption) (by first | (simp; done) | omega | (simp; omega))))), fun i _ h => by omega⟩
  case round =>
    obtain ⟨j, hj, hg, rfl, h4, hbw, hno⟩ := hrel
    by_cases hlt : j < n
    · have hjl : j < L.length := by have := hl.out; omega
      obtain ⟨b, off, rfl, hb, _, _, _, e1⟩ := fos_at (h.out.below hbw) hjl
      have hs := hgood.out L[j] (List.getElem_mem hjl)
      unfold maxLen at hs
      have hbig : 10 < L[j].runs_.length → bigO L = true := fun h => by
        unfold bigO
        rw [Bool.or_eq_true]
        exact .inr (List.any_eq_true.2 ⟨L[j], List.getElem_mem hjl, decide_eq_true h⟩)
      have hbig2 : j = 100 → bigO L = true := fun h => by
        unfold bigO
        rw [decide_eq_true (show 100 < L.length by omega)]
        rfl
      have hnx : L[j].runs_.length ≤ 10 → ∀ i (hi : i < L.length), i < j + 1 → L[i].runs_.length ≤ 10 := fun h i hi h1 => by
        by_cases e : i = j
        · subst e; exact h
        · exact hno.out i hi (by omega)
      clear hno
      generalize L[j] = y at *
      by_cases h60 : j = 100
      · have q : decide ((100 : Int) ≤ (j : Int)) = true := decide_eq_true (by omega)
        replace hbig2 := Lib.hid (hbig2 h60)
        clear hbig hnx h60
        go_wp2_with fail
        go_ret
        exact Ret.mk (by rw [hbig2.out]; rfl) (by repeat (first | with_reducible exact Below.refl _ _ | (with_reducible refine Below.al ?_) | (with_reducible refine Below.drew ?_) | (with_reducible refine Below.set ?_ (by first | (simp; done) | omega | (simp; omega))) | (with_reducible refine Below.thru ?_ (by assumption)) | (with_reducible refine Below.chg ?_ (by assumption) (by first | (simp; done) | omega | (simp; omega)))))
      · have q : decide ((100 : Int) ≤ (j : Int)) = false := decide_eq_false (by omega)
        by_cases hv : 10 < y.runs_.length
        · have q2 : decide ((10 : Int) < (y.runs_.length : Int)) = true := decide_eq_true (by omega)
          replace hbig := Lib.hid (hbig hv)
          clear hbig2 hnx h60
          go_wp2_with fail
          go_ret
          exact Ret.mk (by rw [hbig.out]; rfl) (by repeat (first | with_reducible exact Below.refl _ _ | (with_reducible refine Below.al ?_) | (with_reducible refine Below.drew ?_) | (with_reducible refine Below.set ?_ (by first | (simp; done) | omega | (simp; omega))) | (with_reducible refine Below.thru ?_ (by assumption)) | (with_reducible refine Below.chg ?_ (by assumption) (by first | (simp; done) | omega | (simp; omega)))))
        · have q2 : decide ((10 : Int) < (y.runs_.length : Int)) = false := decide_eq_false (by omega)
          replace hnx := Lib.hid (hnx (by omega))
          clear hbig hbig2
          go_wp2_with fail
          go_roundg (n - (j + 1))
          case measure => omega
          case rel => exact ⟨j + 1, by omega, rfl, by go_num, by omega, (by repeat (first | with_reducible exact Below.refl _ _ | (with_reducible refine Below.al ?_) | (with_reducible refine Below.drew ?_) | (with_reducible refine Below.set ?_ (by first | (simp; done) | omega | (simp; omega))) | (with_reducible refine Below.thru ?_ (by assumption)) | (with_reducible refine Below.chg ?_ (by assumption) (by first | (simp; done) | omega | (simp; omega))))), hnx.out⟩
    · obtain rfl : j = n := by omega
      have hb : bigO L = false := by
        unfold bigO
        rw [decide_eq_false (by have := hl.out; omega), Bool.false_or, List.any_eq_false]
        intro x hx
        obtain ⟨i, hi, rfl⟩ := List.getElem_of_mem hx
        have := hno.out i hi (by have := hl.out; omega)
        simp
        omega
      replace hb := Lib.hid hb
      clear hno
      go_wp2_with fail
      go_ret
      exact Ret.mk (by rw [hb.out]; rfl) (by repeat (first | with_reducible exact Below.refl _ _ | (with_reducible refine Below.al ?_) | (with_reducible refine Below.drew ?_) | (with_reducible refine Below.set ?_ (by first | (simp; done) | omega | (simp; omega))) | (with_reducible refine Below.thru ?_ (by assumption)) | (with_reducible refine Below.chg ?_ (by assumption) (by first | (simp; done) | omega | (simp; omega)))))

def wR : List Run := [⟨0, 3⟩]
def wU (l : List Un) : List (Int × Int × Int) := l.map fun u => (u.seq, u.at_, u.later)
def wN (j : Nat) : List (Int × Int × Int) := (List.range j).map fun i : Nat => ((i : Int) + 1, (i : Int) + 1, 0)
theorem wU_put {l : List Un} {j : Nat} (h : wU l = wN j) (hj : j < 5) (b : Nat) : wU (putU l b ((j : Int) + 1) ((j : Int) + 1)) = wN (j + 1) ∧ putOk l = true := by
  have hl : l.length = j := by have := congrArg List.length h; simpa [wU, wN] using this
  have e1 : ofC ((j : Int) + 1) = (j : Int) + 1 := by unfold ofC; omega
  have e2 : timeV ((j : Int) + 1) = (j : Int) + 1 := by unfold timeV; omega
  refine ⟨?_, by unfold putOk; exact decide_eq_true (by omega)⟩
  unfold putU
  rw [if_pos (by omega), e1, e2]
  unfold wU wN at *
  rw [List.map_append, h, List.range_succ, List.map_append]
  rfl
theorem w_took {l : List Un} (h : wU l = wN 5) : newsL (hearA (fun s => findV (eachL 5 wR) (ofC s)) (timeV 9) l) = [.int .i64 3, .int .i64 2, .int .i64 0, .int .i64 4, .int .i64 2] ∧ leftU (hearA (fun s => findV (eachL 5 wR) (ofC s)) (timeV 9) l).ahead = [] := by
  replace h : l.map (fun u => (u.seq, u.at_, u.later)) = [(1, 1, 0), (2, 2, 0), (3, 3, 0), (4, 4, 0), (5, 5, 0)] := h
  obtain ⟨u1, l1, rfl, h1, h⟩ := List.map_eq_cons_iff.1 h
  obtain ⟨u2, l2, rfl, h2, h⟩ := List.map_eq_cons_iff.1 h
  obtain ⟨u3, l3, rfl, h3, h⟩ := List.map_eq_cons_iff.1 h
  obtain ⟨u4, l4, rfl, h4, h⟩ := List.map_eq_cons_iff.1 h
  obtain ⟨u5, l5, rfl, h5, h⟩ := List.map_eq_cons_iff.1 h
  obtain rfl := List.map_eq_nil_iff.1 h
  obtain ⟨b1, s1, a1, t1⟩ := u1
  obtain ⟨b2, s2, a2, t2⟩ := u2
  obtain ⟨b3, s3, a3, t3⟩ := u3
  obtain ⟨b4, s4, a4, t4⟩ := u4
  obtain ⟨b5, s5, a5, t5⟩ := u5
  injection h1 with h1 h1'
  injection h1' with h1' h1''
  injection h2 with h2 h2'
  injection h2' with h2' h2''
  injection h3 with h3 h3'
  injection h3' with h3' h3''
  injection h4 with h4 h4'
  injection h4' with h4' h4''
  injection h5 with h5 h5'
  injection h5' with h5' h5''
  simp only at h1 h1' h1'' h2 h2' h2'' h3 h3' h3'' h4 h4' h4'' h5 h5' h5''
  subst h1 h1' h1'' h2 h2' h2'' h3 h3' h3'' h4 h4' h4'' h5 h5' h5''
  exact ⟨rfl, rfl⟩
end Go.Proofs.Ytljgmephajocaaa.Flight
