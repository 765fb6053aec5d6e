/- The walks of avec.Check and avec.Put. -/
import Derived.Test.YtfdijoaclpnccaaAvecRefOf
import Derived.Test.YtfdijoaclpnccaaBuild
namespace Go.Proofs.Ytfdijoaclpnccaa.Avec
set_option linter.unusedSimpArgs false
set_option linter.unusedVariables false
open Go Go.RowKit Go.Proofs.Ytfdijoaclpnccaa Go.Proofs.Ytfdijoaclpnccaa.Build
attribute [local irreducible] Calls

/-- What is wrong with the first bad run. -/
def badR (r : Run) : Int := if knownB r.state then (if r.many < 1 ∨ 64 < r.many then 3 else 0) else 7
def badL : List Run → Int
  | [] => 0
  | r :: l => if badR r = 0 then badL l else badR r
def checkL (l : List Run) : Int := if badL l = 0 then (if 128 < manyL l then 11 else 0) else badL l
theorem bad_hit : ∀ (l : List Run) (j : Nat) (hj : j < l.length), (∀ k (hk : k < l.length), k < j → badR l[k] = 0) → badR l[j] ≠ 0 → badL l = badR l[j]
  | r :: l, 0, _, _, h => by
    show (if badR r = 0 then badL l else badR r) = badR r
    exact if_neg h
  | r :: l, j + 1, hj, hb, h => by
    simp only [badL]
    rw [if_pos (show badR r = 0 from hb 0 (by simp) (by omega))]
    exact bad_hit l j (by simpa using hj) (fun k hk hkj => hb (k + 1) (by simpa using hk) (by omega)) h
theorem bad_none : ∀ (l : List Run), (∀ k (hk : k < l.length), badR l[k] = 0) → badL l = 0
  | [], _ => rfl
  | r :: l, h => by
    simp only [badL]
    rw [if_pos (show badR r = 0 from h 0 (by simp))]
    exact bad_none l (fun k hk => h (k + 1) (by simpa using hk))
set_option maxRecDepth 100000 in
set_option maxHeartbeats 400000 in
theorem check_any (l : List Run) (n : Nat) (hl : l.length = n) (hn : n ≤ 100000000) (a : Option Addr) (cap : Nat) (w : World) (h : Rd w a (runs l)) :
    Calls Try.prog 64 #[.slice a n cap] w (Ret w (.int .i64 (checkL l))) := by
  replace h := Lib.hid h; replace hl := Lib.hid hl
  go_enter Try.func64, Try.ntmps64
  go_wp2_with fail
  go_loopg [4, 7, 11, 16] n (fun g _ i _ _ wr => ∃ (j : Nat), j ≤ n ∧ g = n - j ∧ i = .int .i64 j ∧ Hid (∀ k (hk : k < l.length), k < j → badR l[k] = 0) ∧ Below w.heap.size w wr)
  case atStart => exact ⟨0, by omega, by omega, rfl, (fun k hk h => by omega), (by repeat (first | with_reducible exact Below.refl _ _ | (with_reducible refine Below.al ?_) | (with_reducible refine Below.drew ?_) | (with_reducible refine Below.set ?_ (by first | (simp; done) | omega | (simp; omega))) | (with_reducible refine Below.thru ?_ (by assumption)) | (with_reducible refine Below.chg ?_ (by assumption) (by first | (simp; done) | omega | (simp; omega)))))⟩
  case round =>
    obtain ⟨j, hj, hg, rfl, hok, hbw⟩ := hrel
    by_cases hlt : j < n
    · have hjl : j < l.length := by have := hl.out; omega
      obtain ⟨b, off, rfl, hb, hc⟩ := runs_at (h.out.below hbw) hl.out (by omega)
      obtain ⟨e0, e1⟩ := hc j hjl
      have K := fun W => known_any l[j].state W
      have hit := fun h => bad_hit l j hjl hok.out h
      have hnx : badR l[j] = 0 → ∀ k (hk : k < l.length), k < j + 1 → badR l[k] = 0 := fun h0 k hk h1 => by
        by_cases e : k = j
        · subst e; exact h0
        · exact hok.out k hk (by omega)
      have hbd : badR l[j] = if knownB l[j].state then (if l[j].many < 1 ∨ 64 < l[j].many then 3 else 0) else 7 := rfl
      clear hc
      generalize l[j] = r at *
      have HB := Box.new (w := wr) [.int .i64 r.state, .int .i64 r.many] 115
      cases hk : knownB r.state with
      | false =>
        rw [hk] at K hbd
        have hb7 : badR r = 7 := by rw [hbd]; rfl
        have hr : checkL l = 7 := by
          unfold checkL
          rw [hit (by rw [hb7]; decide), hb7]
          rfl
        replace hr := Lib.hid hr; replace K := Lib.hid K; replace HB := Lib.hid HB
        clear hbd hnx hit
        go_wp2_with fail
        refine Calls.mono (K.out _) ?_
        rintro e w3 ⟨rfl, hb3⟩
        clear K
        have HB3 := HB.out.below hb3
        have hbb : Below w.heap.size w w3 := Below.thru (Below.al hbw (o := .cells #[.int .i64 r.state, .int .i64 r.many] 115)) hb3
        replace hbb := Lib.hid hbb
        clear HB
        go_wp2_with fail
        go_ret
        exact Ret.mk (by rw [hr.out]; rfl) hbb.out
      | true =>
        rw [hk] at K hbd
        replace hbd : badR r = if r.many < 1 ∨ 64 < r.many then 3 else 0 := hbd
        by_cases m1 : r.many < 1
        · have q1 : decide (r.many < 1) = true := decide_eq_true m1
          rw [if_pos (.inl m1)] at hbd
          have hr : checkL l = 3 := by
            unfold checkL
            rw [hit (by rw [hbd]; decide), hbd]
            rfl
          replace hr := Lib.hid hr; replace K := Lib.hid K; replace HB := Lib.hid HB
          clear hbd hnx hit
          go_wp2_with fail
          refine Calls.mono (K.out _) ?_
          rintro e w3 ⟨rfl, hb3⟩
          clear K
          obtain ⟨z3, k3, f3⟩ := HB.out.below hb3
          have hbb : Below w.heap.size w w3 := Below.thru (Below.al hbw (o := .cells #[.int .i64 r.state, .int .i64 r.many] 115)) hb3
          replace hbb := Lib.hid hbb
          clear HB
          go_wp2_with fail
          go_ret
          exact Ret.mk (by rw [hr.out]; rfl) hbb.out
        · have q1 : decide (r.many < 1) = false := decide_eq_false m1
          by_cases m2 : 64 < r.many
          · have q2 : decide (64 < r.many) = true := decide_eq_true m2
            rw [if_pos (.inr m2)] at hbd
            have hr : checkL l = 3 := by
              unfold checkL
              rw [hit (by rw [hbd]; decide), hbd]
              rfl
            replace hr := Lib.hid hr; replace K := Lib.hid K; replace HB := Lib.hid HB
            clear hbd hnx hit
            go_wp2_with fail
            refine Calls.mono (K.out _) ?_
            rintro e w3 ⟨rfl, hb3⟩
            clear K
            obtain ⟨z3, k3, f3⟩ := HB.out.below hb3
            have hbb : Below w.heap.size w w3 := Below.thru (Below.al hbw (o := .cells #[.int .i64 r.state, .int .i64 r.many] 115)) hb3
            replace hbb := Lib.hid hbb
            clear HB
            go_wp2_with fail
            go_ret
            exact Ret.mk (by rw [hr.out]; rfl) hbb.out
          · have q2 : decide (64 < r.many) = false := decide_eq_false m2
            rw [if_neg (by omega)] at hbd
            replace hnx := hnx hbd
            replace K := Lib.hid K; replace HB := Lib.hid HB; replace hnx := Lib.hid hnx
            clear hbd hit
            go_wp2_with fail
            refine Calls.mono (K.out _) ?_
            rintro e w3 ⟨rfl, hb3⟩
            clear K
            obtain ⟨z3, k3, f3⟩ := HB.out.below hb3
            have hbb : Below w.heap.size w w3 := Below.thru (Below.al hbw (o := .cells #[.int .i64 r.state, .int .i64 r.many] 115)) hb3
            replace hbb := Lib.hid hbb
            clear HB
            go_wp2_with fail
            go_roundg (n - (j + 1))
            case measure => omega
            case rel => exact ⟨j + 1, by omega, rfl, by go_num, hnx, hbb.out⟩
    · obtain rfl : j = n := by omega
      have h0 := bad_none l (fun k hk => hok.out k hk (by have := hl.out; omega))
      have M := many_any l j hl.out hn a cap wr (h.out.below hbw)
      obtain ⟨m0, m1⟩ := many_bd l
      have hlo := hl.out
      by_cases hm : 128 < manyL l
      · have hr : checkL l = 11 := by unfold checkL; rw [h0, if_pos rfl, if_pos hm]
        have q : decide (128 < manyL l) = true := decide_eq_true hm
        replace hr := Lib.hid hr; replace M := Lib.hid M
        clear h0
        go_wp2_with fail
        refine Calls.mono (M.out) ?_
        rintro e w1 ⟨rfl, hb1⟩
        have z1 := Below.size hb1; try simp only [World.size_alloc, World.size_setCell, World.size_drew] at z1
        go_wp2_with fail
        go_ret
        exact Ret.mk (by rw [hr.out]; rfl) (by repeat (first | with_reducible exact Below.refl _ _ | (with_reducible refine Below.al ?_) | (with_reducible refine Below.drew ?_) | (with_reducible refine Below.set ?_ (by first | (simp; done) | omega | (simp; omega))) | (with_reducible refine Below.thru ?_ (by assumption)) | (with_reducible refine Below.chg ?_ (by assumption) (by first | (simp; done) | omega | (simp; omega)))))
      · have hr : checkL l = 0 := by unfold checkL; rw [h0, if_pos rfl, if_neg hm]
        have q : decide (128 < manyL l) = false := decide_eq_false hm
        replace hr := Lib.hid hr; replace M := Lib.hid M
        clear h0
        go_wp2_with fail
        refine Calls.mono (M.out) ?_
        rintro e w1 ⟨rfl, hb1⟩
        have z1 := Below.size hb1; try simp only [World.size_alloc, World.size_setCell, World.size_drew] at z1
        go_wp2_with fail
        go_ret
        exact Ret.mk (by rw [hr.out]; rfl) (by repeat (first | with_reducible exact Below.refl _ _ | (with_reducible refine Below.al ?_) | (with_reducible refine Below.drew ?_) | (with_reducible refine Below.set ?_ (by first | (simp; done) | omega | (simp; omega))) | (with_reducible refine Below.thru ?_ (by assumption)) | (with_reducible refine Below.chg ?_ (by assumption) (by first | (simp; done) | omega | (simp; omega)))))

def byteR (r : Run) : UInt8 := UInt8.ofNat (64 * r.state + r.many - 1).toNat
def putL (l : List Run) : List UInt8 := l.map byteR
theorem bad_zero : ∀ {l : List Run}, badL l = 0 → ∀ r ∈ l, (r.state = 0 ∨ r.state = 1 ∨ r.state = 3) ∧ 1 ≤ r.many ∧ r.many ≤ 64
  | [], _, r, h => by simp at h
  | x :: l, h0, r, hr => by
    have hx : badR x = 0 := by
      unfold badL at h0
      split at h0
      · assumption
      · exact h0
    have hl : badL l = 0 := by
      unfold badL at h0
      rwa [if_pos hx] at h0
    rcases List.mem_cons.1 hr with rfl | hr
    · unfold badR at hx
      split at hx
      · rename_i hk
        split at hx
        · simp at hx
        · unfold knownB at hk
          simp at hk
          omega
      · simp at hx
    · exact bad_zero hl r hr
theorem or_byte : ∀ s < 4, ∀ m < 64, bits .or .i64 ((64 * s : Nat) : Int) ((m : Nat) : Int) = ((64 * s + m : Nat) : Int) := by decide +kernel
theorem byteR_nat {r : Run} (h1 : r.state = 0 ∨ r.state = 1 ∨ r.state = 3) (h2 : 1 ≤ r.many) (h3 : r.many ≤ 64) : ((byteR r).toNat : Int) = 64 * r.state + r.many - 1 := by
  unfold byteR
  rw [UInt8.toNat_ofNat']
  omega
theorem putL_take {l : List Run} {j : Nat} (h : j < l.length) : putL (l.take (j + 1)) = putL (l.take j) ++ [byteR l[j]] := by
  unfold putL
  rw [List.take_succ_eq_append_getElem h, List.map_append]
  rfl
set_option maxRecDepth 100000 in
set_option maxHeartbeats 400000 in
theorem put_bad (l : List Run) (n : Nat) (hl : l.length = n) (hn : n ≤ 100000000) (a : Option Addr) (cap : Nat) (w : World) (h : Rd w a (runs l)) (hc : checkL l ≠ 0) :
    Calls Try.prog 60 #[.slice a n cap] w (Ret w (.tuple #[.string ⟨#[]⟩, .int .i64 (checkL l)])) := by
  have C := check_any l n hl hn a cap w h
  have q : (checkL l == 0) = false := by simpa using hc
  have q' : (checkL l != 0) = true := by simpa using hc
  have q2 : decide (checkL l = 0) = false := decide_eq_false hc
  generalize checkL l = e at *
  clear h hc
  go_enter Try.func60, Try.ntmps60
  go_wp2_with fail
  refine Calls.mono (C) ?_
  rintro e w1 ⟨rfl, hb1⟩
  have z1 := Below.size hb1; try simp only [World.size_alloc, World.size_setCell, World.size_drew] at z1
  go_wp2_with fail
  go_ret2
  exact Ret.mk rfl (by repeat (first | with_reducible exact Below.refl _ _ | (with_reducible refine Below.al ?_) | (with_reducible refine Below.drew ?_) | (with_reducible refine Below.set ?_ (by first | (simp; done) | omega | (simp; omega))) | (with_reducible refine Below.thru ?_ (by assumption)) | (with_reducible refine Below.chg ?_ (by assumption) (by first | (simp; done) | omega | (simp; omega)))))
set_option maxRecDepth 100000 in
set_option maxHeartbeats 1000000 in
theorem put_ok (l : List Run) (n : Nat) (hl : l.length = n) (hn : n ≤ 100000000) (a : Option Addr) (cap : Nat) (w : World) (h : Rd w a (runs l)) (hc : checkL l = 0) :
    Calls Try.prog 60 #[.slice a n cap] w (Ret w (.tuple #[.string ⟨(putL l).toArray⟩, .int .i64 0])) := by
  have C := check_any l n hl hn a cap w h
  rw [hc] at C
  have hb0 : badL l = 0 := by
    unfold checkL at hc
    split at hc
    · assumption
    · exact hc
  have hgood := bad_zero hb0
  clear hc hb0
  replace h := Lib.hid h; replace hl := Lib.hid hl; replace hgood := Lib.hid hgood
  go_enter Try.func60, Try.ntmps60
  go_wp2_with fail
  refine Calls.mono (C) ?_
  rintro e w1 ⟨rfl, hb1⟩
  have z1 := Below.size hb1; try simp only [World.size_alloc, World.size_setCell, World.size_drew] at z1
  clear C
  have B0 := Bld.new w1
  have B1 : Below w.heap.size w (w1.alloc (.cells #[.pointer none, .slice none 0 0] 127)) := Below.al hb1
  replace B0 := Lib.hid B0
  go_wp2_with fail
  go_loopg [7, 15] n (fun g _ i wr => ∃ (j : Nat), j ≤ n ∧ g = n - j ∧ i = .int .i64 j ∧ Bld w1.heap.size w1.heap.size (putL (l.take j)) wr ∧ Below w1.heap.size w1 wr)
  case atStart => exact ⟨0, by omega, by omega, rfl, B0.out, (by repeat (first | with_reducible exact Below.refl _ _ | (with_reducible refine Below.al ?_) | (with_reducible refine Below.drew ?_) | (with_reducible refine Below.set ?_ (by first | (simp; done) | omega | (simp; omega))) | (with_reducible refine Below.thru ?_ (by assumption)) | (with_reducible refine Below.chg ?_ (by assumption) (by first | (simp; done) | omega | (simp; omega)))))⟩
  case round =>
    obtain ⟨j, hj, hg, rfl, hB, hbw⟩ := hrel
    by_cases hlt : j < n
    · have hjl : j < l.length := by have := hl.out; omega
      obtain ⟨b, off, rfl, hb, hc⟩ := runs_at ((h.out.below hb1).below hbw) hl.out (by omega)
      obtain ⟨e0, e1⟩ := hc j hjl
      obtain ⟨g1, g2, g3⟩ := hgood.out l[j] (List.getElem_mem hjl)
      have hnat := byteR_nat g1 g2 g3
      have hnx := putL_take hjl
      have hpl : (putL (l.take j)).length ≤ 1000000000 := by simp [putL]; omega
      clear hc
      generalize l[j] = r at *
      obtain ⟨s, m⟩ := r
      simp only at g1 g2 g3 hnat e0 e1
      obtain ⟨k, rfl⟩ : ∃ k : Nat, m = (k : Int) + 1 := ⟨(m - 1).toNat, by omega⟩
      have hk : k < 64 := by omega
      have qk : IntKind.i64.wrap (((k : Int) + 1) - 1) = (k : Int) := by rw [IntWalk.i64_in _ (by omega)]; omega
      rcases g1 with rfl | rfl | rfl
      · have ob : bits .or .i64 0 (k : Int) % 256 = ((byteR ⟨0, (k : Int) + 1⟩).toNat : Int) := by
          have o := or_byte 0 (by omega) k hk
          rw [hnat, show (0 : Int) = ((64 * 0 : Nat) : Int) from rfl, o]
          omega
        have HB := (Box.new (w := wr) [.int .i64 0, .int .i64 ((k : Int) + 1)] 115)
        obtain ⟨zx, kx, fx⟩ := HB
        have hB2 := hB.thru ((Below.refl wr.heap.size wr).alloc (Nat.le_refl _) (.cells #[.int .i64 0, .int .i64 ((k : Int) + 1)] 115))
        have W := byte_any _ _ _ (byteR ⟨0, ((k : Int) + 1)⟩) _ hB2 (by omega) (by have := hbw.size; simp; omega)
        rw [← hnx] at W
        clear hB hB2 hnat
        replace W := Lib.hid W
        replace ob := Lib.hid ob
        go_wp2_with fail
        rw [ob.out]
        refine Calls.mono W.out ?_
        rintro e w4 ⟨rfl, hB4, hb4⟩
        have hbb : Below w1.heap.size w1 w4 := Below.trans (Below.al hbw (o := .cells #[.int .i64 0, .int .i64 ((k : Int) + 1)] 115)) hb4
        replace hB4 := Lib.hid hB4; replace hbb := Lib.hid hbb
        clear W ob
        go_wp2_with fail
        go_roundg (n - (j + 1))
        case measure => omega
        case rel => exact ⟨j + 1, by omega, rfl, by go_num, hB4.out, hbb.out⟩
      · have ob : bits .or .i64 64 (k : Int) % 256 = ((byteR ⟨1, (k : Int) + 1⟩).toNat : Int) := by
          have o := or_byte 1 (by omega) k hk
          rw [hnat, show (64 : Int) = ((64 * 1 : Nat) : Int) from rfl, o]
          omega
        have HB := (Box.new (w := wr) [.int .i64 1, .int .i64 ((k : Int) + 1)] 115)
        obtain ⟨zx, kx, fx⟩ := HB
        have hB2 := hB.thru ((Below.refl wr.heap.size wr).alloc (Nat.le_refl _) (.cells #[.int .i64 1, .int .i64 ((k : Int) + 1)] 115))
        have W := byte_any _ _ _ (byteR ⟨1, ((k : Int) + 1)⟩) _ hB2 (by omega) (by have := hbw.size; simp; omega)
        rw [← hnx] at W
        clear hB hB2 hnat
        replace W := Lib.hid W
        replace ob := Lib.hid ob
        go_wp2_with fail
        rw [ob.out]
        refine Calls.mono W.out ?_
        rintro e w4 ⟨rfl, hB4, hb4⟩
        have hbb : Below w1.heap.size w1 w4 := Below.trans (Below.al hbw (o := .cells #[.int .i64 1, .int .i64 ((k : Int) + 1)] 115)) hb4
        replace hB4 := Lib.hid hB4; replace hbb := Lib.hid hbb
        clear W ob
        go_wp2_with fail
        go_roundg (n - (j + 1))
        case measure => omega
        case rel => exact ⟨j + 1, by omega, rfl, by go_num, hB4.out, hbb.out⟩
      · have ob : bits .or .i64 192 (k : Int) % 256 = ((byteR ⟨3, (k : Int) + 1⟩).toNat : Int) := by
          have o := or_byte 3 (by omega) k hk
          rw [hnat, show (192 : Int) = ((64 * 3 : Nat) : Int) from rfl, o]
          omega
        have HB := (Box.new (w := wr) [.int .i64 3, .int .i64 ((k : Int) + 1)] 115)
        obtain ⟨zx, kx, fx⟩ := HB
        have hB2 := hB.thru ((Below.refl wr.heap.size wr).alloc (Nat.le_refl _) (.cells #[.int .i64 3, .int .i64 ((k : Int) + 1)] 115))
        have W := byte_any _ _ _ (byteR ⟨3, ((k : Int) + 1)⟩) _ hB2 (by omega) (by have := hbw.size; simp; omega)
        rw [← hnx] at W
        clear hB hB2 hnat
        replace W := Lib.hid W
        replace ob := Lib.hid ob
        go_wp2_with fail
        rw [ob.out]
        refine Calls.mono W.out ?_
        rintro e w4 ⟨rfl, hB4, hb4⟩
        have hbb : Below w1.heap.size w1 w4 := Below.trans (Below.al hbw (o := .cells #[.int .i64 3, .int .i64 ((k : Int) + 1)] 115)) hb4
        replace hB4 := Lib.hid hB4; replace hbb := Lib.hid hbb
        clear W ob
        go_wp2_with fail
        go_roundg (n - (j + 1))
        case measure => omega
        case rel => exact ⟨j + 1, by omega, rfl, by go_num, hB4.out, hbb.out⟩
    · obtain rfl : j = n := by omega
      rw [List.take_of_length_le (by have := hl.out; omega)] at hB
      have T := str_any _ _ _ wr hB
      replace T := Lib.hid T
      go_wp2_with fail
      refine Calls.mono T.out ?_
      rintro e w5 ⟨rfl, hb5⟩
      have hbb : Below w.heap.size w w5 := hb1.trans ((hbw.trans hb5).mono z1)
      replace hbb := Lib.hid hbb
      clear T
      go_wp2_with fail
      go_ret2
      exact Ret.mk rfl hbb.out
end Go.Proofs.Ytfdijoaclpnccaa.Avec
