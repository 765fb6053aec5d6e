/- The walks of the package feat: Meet, check. -/
import Derived.Test.YtljgmephajocaaaMore
import Derived.Deep.LoopGhost
import Derived.Shelf.Abstract
namespace Go.Proofs.Ytljgmephajocaaa.Feat
set_option linter.unusedSimpArgs false
set_option linter.unusedVariables false
open Go Go.RowKit Go.Shelf Go.Proofs.Ytljgmephajocaaa
attribute [local irreducible] Calls

theorem ints_at {w : World} {a : Option Addr} {l : List Int} (h : Rd w a (i64s l)) {j : Nat} (hj : j < l.length) : ∃ b off, a = some ⟨b, off, none⟩ ∧ b < w.heap.size ∧ w.cell? ⟨b, off + j, none⟩ = some (.int .i64 l[j]) := by
  obtain ⟨b, off, rfl, hb, hc⟩ := h.cons (i64s_ne rfl hj)
  exact ⟨b, off, rfl, hb, hc j _ (i64s_at hj)⟩
set_option maxRecDepth 100000 in
set_option maxHeartbeats 400000 in
theorem index_any (l : List Int) (n : Nat) (hl : l.length = n) (hn : n ≤ 1000000) (a : Option Addr) (cap : Nat) (x : Int) (w : World) (h : Rd w a (i64s l)) :
    Calls Try.prog 141 #[.slice a n cap, .int .i64 x] w (Ret w (.int .i64 (idxF (fun y => x == y) l))) := by
  obtain ⟨pr, hpr⟩ : ∃ pr : Int → Bool, (fun y => x == y) = pr := ⟨_, rfl⟩
  rw [hpr]
  replace h := Lib.hid h; replace hl := Lib.hid hl
  go_enter Try.func141, Try.ntmps141
  go_wp2_with fail
  go_loopg [5, 8] n (fun g _ i wr => ∃ j : Nat, j ≤ n ∧ g = n - j ∧ i = .int .i64 j ∧ Hid (∀ k (hk : k < l.length), k < j → pr l[k] = false) ∧ Below w.heap.size w wr)
  case atStart => exact ⟨0, by omega, by omega, rfl, (fun k hk h => by omega), (by repeat (first | with_reducible exact Below.refl _ _ | (with_reducible refine Below.al ?_) | (with_reducible refine Below.drew ?_) | (with_reducible refine Below.set ?_ (by first | (simp; done) | omega | (simp; omega))) | (with_reducible refine Below.thru ?_ (by assumption)) | (with_reducible refine Below.chg ?_ (by assumption) (by first | (simp; done) | omega | (simp; omega)))))⟩
  case round =>
    obtain ⟨j, hj, hg, rfl, hno, hbw⟩ := hrel
    by_cases hlt : j < n
    · have hjl : j < l.length := by have := hl.out; omega
      obtain ⟨b, off, rfl, hb, e0⟩ := ints_at (h.out.below hbw) hjl
      have P : (x == l[j]) = pr l[j] := by rw [← hpr]
      have hit : pr l[j] = true → idxF pr l = (j : Int) := fun h => idx_some hjl h (fun k hk hkj => hno.out k hk hkj)
      have hnx : pr l[j] = false → ∀ k (hk : k < l.length), k < j + 1 → pr l[k] = false := fun h0 k hk h1 => by
        by_cases e : k = j
        · subst e; exact h0
        · exact hno.out k hk (by omega)
      cases hb0 : pr l[j] with
      | true =>
        rw [hb0] at P
        replace hit := Lib.hid (hit hb0)
        clear hnx
        generalize l[j] = y at *
        replace hb0 := Lib.hid hb0
        go_wp2_with fail
        go_ret
        exact Ret.mk (by rw [hit.out]; rfl) (by repeat (first | with_reducible exact Below.refl _ _ | (with_reducible refine Below.al ?_) | (with_reducible refine Below.drew ?_) | (with_reducible refine Below.set ?_ (by first | (simp; done) | omega | (simp; omega))) | (with_reducible refine Below.thru ?_ (by assumption)) | (with_reducible refine Below.chg ?_ (by assumption) (by first | (simp; done) | omega | (simp; omega)))))
      | false =>
        rw [hb0] at P
        replace hnx := Lib.hid (hnx hb0)
        clear hit
        generalize l[j] = y at *
        replace hb0 := Lib.hid hb0
        go_wp2_with fail
        go_roundg (n - (j + 1))
        case measure => omega
        case rel => exact ⟨j + 1, by omega, rfl, by go_num, hnx.out, (by repeat (first | with_reducible exact Below.refl _ _ | (with_reducible refine Below.al ?_) | (with_reducible refine Below.drew ?_) | (with_reducible refine Below.set ?_ (by first | (simp; done) | omega | (simp; omega))) | (with_reducible refine Below.thru ?_ (by assumption)) | (with_reducible refine Below.chg ?_ (by assumption) (by first | (simp; done) | omega | (simp; omega)))))⟩
    · obtain rfl : j = n := by omega
      have hf : idxF pr l = -1 := idx_none (fun i hi => hno.out i hi (by have := hl.out; omega))
      replace hf := Lib.hid hf
      go_wp2_with fail
      go_ret
      exact Ret.mk (by rw [hf.out]; rfl) (by repeat (first | with_reducible exact Below.refl _ _ | (with_reducible refine Below.al ?_) | (with_reducible refine Below.drew ?_) | (with_reducible refine Below.set ?_ (by first | (simp; done) | omega | (simp; omega))) | (with_reducible refine Below.thru ?_ (by assumption)) | (with_reducible refine Below.chg ?_ (by assumption) (by first | (simp; done) | omega | (simp; omega)))))
set_option maxRecDepth 100000 in
set_option maxHeartbeats 400000 in
theorem indexf_any (l : List Int) (n : Nat) (hl : l.length = n) (hn : n ≤ 1000000) (a : Option Addr) (cap : Nat) (w : World) (h : Rd w a (i64s l)) (G : Nat) (caps : Array Value) (hG : ∀ args w, (callFunc G args).run Try.prog w = .ok (.enter G args) w) (pr : Int → Bool)
    (hcall : ∀ (x : Int) (w' : World), Below w.heap.size w w' → Calls Try.prog G (#[.int .i64 x] ++ caps) w' (Ret w' (.bool (pr x)))) :
    Calls Try.prog 162 #[.slice a n cap, .func (.func G) #[] caps] w (Ret w (.int .i64 (idxF pr l))) := by
  replace h := Lib.hid h; replace hl := Lib.hid hl; replace hcall := Lib.hid hcall
  go_enter Try.func162, Try.ntmps162
  go_wp2_with fail
  go_loopg [5, 8] n (fun g _ i wr => ∃ j : Nat, j ≤ n ∧ g = n - j ∧ i = .int .i64 j ∧ Hid (∀ k (hk : k < l.length), k < j → pr l[k] = false) ∧ Below w.heap.size w wr)
  case atStart => exact ⟨0, by omega, by omega, rfl, (fun k hk h => by omega), (by repeat (first | with_reducible exact Below.refl _ _ | (with_reducible refine Below.al ?_) | (with_reducible refine Below.drew ?_) | (with_reducible refine Below.set ?_ (by first | (simp; done) | omega | (simp; omega))) | (with_reducible refine Below.thru ?_ (by assumption)) | (with_reducible refine Below.chg ?_ (by assumption) (by first | (simp; done) | omega | (simp; omega)))))⟩
  case round =>
    obtain ⟨j, hj, hg, rfl, hno, hbw⟩ := hrel
    by_cases hlt : j < n
    · have hjl : j < l.length := by have := hl.out; omega
      obtain ⟨b, off, rfl, hb, e0⟩ := ints_at (h.out.below hbw) hjl
      have P := hcall.out l[j] wr hbw
      have hit : pr l[j] = true → idxF pr l = (j : Int) := fun h => idx_some hjl h (fun k hk hkj => hno.out k hk hkj)
      have hnx : pr l[j] = false → ∀ k (hk : k < l.length), k < j + 1 → pr l[k] = false := fun h0 k hk h1 => by
        by_cases e : k = j
        · subst e; exact h0
        · exact hno.out k hk (by omega)
      cases hb0 : pr l[j] with
      | true =>
        rw [hb0] at P
        replace hit := Lib.hid (hit hb0)
        clear hnx
        generalize l[j] = y at *
        replace hb0 := Lib.hid hb0
        replace P := Lib.hid P
        go_wp2_with fail
        refine Calls.mono (P.out) ?_
        rintro e w1 ⟨rfl, hb1⟩
        have z1 := Below.size hb1; try simp only [World.size_alloc, World.size_setCell, World.size_drew] at z1
        clear P
        go_wp2_with fail
        go_ret
        exact Ret.mk (by rw [hit.out]; rfl) (by repeat (first | with_reducible exact Below.refl _ _ | (with_reducible refine Below.al ?_) | (with_reducible refine Below.drew ?_) | (with_reducible refine Below.set ?_ (by first | (simp; done) | omega | (simp; omega))) | (with_reducible refine Below.thru ?_ (by assumption)) | (with_reducible refine Below.chg ?_ (by assumption) (by first | (simp; done) | omega | (simp; omega)))))
      | false =>
        rw [hb0] at P
        replace hnx := Lib.hid (hnx hb0)
        clear hit
        generalize l[j] = y at *
        replace hb0 := Lib.hid hb0
        replace P := Lib.hid P
        go_wp2_with fail
        refine Calls.mono (P.out) ?_
        rintro e w1 ⟨rfl, hb1⟩
        have z1 := Below.size hb1; try simp only [World.size_alloc, World.size_setCell, World.size_drew] at z1
        clear P
        go_wp2_with fail
        go_roundg (n - (j + 1))
        case measure => omega
        case rel => exact ⟨j + 1, by omega, rfl, by go_num, hnx.out, (by repeat (first | with_reducible exact Below.refl _ _ | (with_reducible refine Below.al ?_) | (with_reducible refine Below.drew ?_) | (with_reducible refine Below.set ?_ (by first | (simp; done) | omega | (simp; omega))) | (with_reducible refine Below.thru ?_ (by assumption)) | (with_reducible refine Below.chg ?_ (by assumption) (by first | (simp; done) | omega | (simp; omega)))))⟩
    · obtain rfl : j = n := by omega
      have hf : idxF pr l = -1 := idx_none (fun i hi => hno.out i hi (by have := hl.out; omega))
      replace hf := Lib.hid hf
      go_wp2_with fail
      go_ret
      exact Ret.mk (by rw [hf.out]; rfl) (by repeat (first | with_reducible exact Below.refl _ _ | (with_reducible refine Below.al ?_) | (with_reducible refine Below.drew ?_) | (with_reducible refine Below.set ?_ (by first | (simp; done) | omega | (simp; omega))) | (with_reducible refine Below.thru ?_ (by assumption)) | (with_reducible refine Below.chg ?_ (by assumption) (by first | (simp; done) | omega | (simp; omega)))))
theorem contains_any (l : List Int) (n : Nat) (hl : l.length = n) (hn : n ≤ 1000000) (a : Option Addr) (cap : Nat) (x : Int) (w : World) (h : Rd w a (i64s l)) :
    Calls Try.prog 106 #[.slice a n cap, .int .i64 x] w (Ret w (.bool (l.any (fun y => x == y)))) := by
  have P := index_any l n hl hn a cap x w h
  rw [← idx_ge]
  go_enter Try.func106, Try.ntmps106
  go_wp2_with fail
  refine Calls.mono (P) ?_
  rintro e w1 ⟨rfl, hb1⟩
  have z1 := Below.size hb1; try simp only [World.size_alloc, World.size_setCell, World.size_drew] at z1
  go_wp2_with fail
  go_ret
  exact Ret.mk rfl (by repeat (first | with_reducible exact Below.refl _ _ | (with_reducible refine Below.al ?_) | (with_reducible refine Below.drew ?_) | (with_reducible refine Below.set ?_ (by first | (simp; done) | omega | (simp; omega))) | (with_reducible refine Below.thru ?_ (by assumption)) | (with_reducible refine Below.chg ?_ (by assumption) (by first | (simp; done) | omega | (simp; omega)))))
theorem containsf_any (l : List Int) (n : Nat) (hl : l.length = n) (hn : n ≤ 1000000) (a : Option Addr) (cap : Nat) (w : World) (h : Rd w a (i64s l)) (G : Nat) (caps : Array Value) (hG : ∀ args w, (callFunc G args).run Try.prog w = .ok (.enter G args) w) (pr : Int → Bool)
    (hcall : ∀ (x : Int) (w' : World), Below w.heap.size w w' → Calls Try.prog G (#[.int .i64 x] ++ caps) w' (Ret w' (.bool (pr x)))) :
    Calls Try.prog 139 #[.slice a n cap, .func (.func G) #[] caps] w (Ret w (.bool (l.any pr))) := by
  have P := indexf_any l n hl hn a cap w h G caps hG pr hcall
  rw [← idx_ge]
  clear hcall
  go_enter Try.func139, Try.ntmps139
  go_wp2_with fail
  refine Calls.mono (P) ?_
  rintro e w1 ⟨rfl, hb1⟩
  have z1 := Below.size hb1; try simp only [World.size_alloc, World.size_setCell, World.size_drew] at z1
  go_wp2_with fail
  go_ret
  exact Ret.mk rfl (by repeat (first | with_reducible exact Below.refl _ _ | (with_reducible refine Below.al ?_) | (with_reducible refine Below.drew ?_) | (with_reducible refine Below.set ?_ (by first | (simp; done) | omega | (simp; omega))) | (with_reducible refine Below.thru ?_ (by assumption)) | (with_reducible refine Below.chg ?_ (by assumption) (by first | (simp; done) | omega | (simp; omega)))))

/-- What two sides come to. -/
def meetV (s c : List Int) : Int × Bool := match s.find? (fun n => c.any (fun y => n == y)) with | some n => (n, true) | none => (0, false)
theorem meet_hit {s c : List Int} {j : Nat} (hj : j < s.length) (h : c.any (fun y => s[j] == y) = true) (hn : ∀ k (hk : k < s.length), k < j → c.any (fun y => s[k] == y) = false) : meetV s c = (s[j], true) := by
  unfold meetV
  have : s.find? (fun n => c.any (fun y => n == y)) = some s[j] := by
    rw [List.find?_eq_some_iff_getElem]
    exact ⟨h, j, hj, rfl, fun k hk => by rw [hn k (by omega) hk]; rfl⟩
  rw [this]
theorem meet_none {s c : List Int} (hn : ∀ k (hk : k < s.length), c.any (fun y => s[k] == y) = false) : meetV s c = (0, false) := by
  unfold meetV
  rw [List.find?_eq_none.2 (by
    intro x hx
    obtain ⟨i, hi, rfl⟩ := List.getElem_of_mem hx
    rw [hn i hi]
    simp)]
set_option maxRecDepth 100000 in
set_option maxHeartbeats 400000 in
theorem meet_any (l c : List Int) (n m : Nat) (hl : l.length = n) (hc : c.length = m) (hn : n ≤ 1000000) (hm : m ≤ 1000000) (a b : Option Addr) (ca cb : Nat) (w : World) (h : Rd w a (i64s l)) (hb : Rd w b (i64s c)) :
    Calls Try.prog 54 #[.slice a n ca, .slice b m cb] w (Ret w (.tuple #[.int .i64 (meetV l c).1, .bool (meetV l c).2])) := by
  have PC := fun x W hW => contains_any c m hc hm b cb x W (hb.below hW)
  obtain ⟨v, hv⟩ : ∃ v, meetV l c = v := ⟨_, rfl⟩
  rw [hv]
  replace h := Lib.hid h; replace hl := Lib.hid hl; replace PC := Lib.hid PC; replace hv := Lib.hid hv
  clear hb
  go_enter Try.func54, Try.ntmps54
  go_wp2_with fail
  go_loopg [7, 10] n (fun g _ i wr => ∃ j : Nat, j ≤ n ∧ g = n - j ∧ i = .int .i64 j ∧ Hid (∀ k (hk : k < l.length), k < j → c.any (fun y => l[k] == y) = false) ∧ Below w.heap.size w wr)
  case atStart => exact ⟨0, by omega, by omega, rfl, (fun k hk h => by omega), (by repeat (first | with_reducible exact Below.refl _ _ | (with_reducible refine Below.al ?_) | (with_reducible refine Below.drew ?_) | (with_reducible refine Below.set ?_ (by first | (simp; done) | omega | (simp; omega))) | (with_reducible refine Below.thru ?_ (by assumption)) | (with_reducible refine Below.chg ?_ (by assumption) (by first | (simp; done) | omega | (simp; omega)))))⟩
  case round =>
    obtain ⟨j, hj, hg, rfl, hno, hbw⟩ := hrel
    by_cases hlt : j < n
    · have hjl : j < l.length := by have := hl.out; omega
      obtain ⟨b', off, rfl, hb', e0⟩ := ints_at (h.out.below hbw) hjl
      have P := PC.out l[j] wr hbw
      have hit := fun h => meet_hit (s := l) (c := c) hjl h (fun k hk hkj => hno.out k hk hkj)
      rw [hv.out] at hit
      have hnx : c.any (fun y => l[j] == y) = false → ∀ k (hk : k < l.length), k < j + 1 → c.any (fun y => l[k] == y) = false := fun h0 k hk h1 => by
        by_cases e : k = j
        · subst e; exact h0
        · exact hno.out k hk (by omega)
      generalize l[j] = y at *
      cases hb0 : c.any (fun z => y == z) with
      | true =>
        rw [hb0] at P
        have hvy := hit hb0
        subst hvy
        clear hnx hit
        replace P := Lib.hid P; replace hb0 := Lib.hid hb0
        go_wp2_with fail
        refine Calls.mono (P.out) ?_
        rintro e w1 ⟨rfl, hb1⟩
        have z1 := Below.size hb1; try simp only [World.size_alloc, World.size_setCell, World.size_drew] at z1
        clear P
        go_wp2_with fail
        go_ret2
        exact Ret.mk rfl (by repeat (first | with_reducible exact Below.refl _ _ | (with_reducible refine Below.al ?_) | (with_reducible refine Below.drew ?_) | (with_reducible refine Below.set ?_ (by first | (simp; done) | omega | (simp; omega))) | (with_reducible refine Below.thru ?_ (by assumption)) | (with_reducible refine Below.chg ?_ (by assumption) (by first | (simp; done) | omega | (simp; omega)))))
      | false =>
        rw [hb0] at P
        replace hnx := Lib.hid (hnx hb0)
        clear hit
        replace P := Lib.hid P; replace hb0 := Lib.hid hb0
        go_wp2_with fail
        refine Calls.mono (P.out) ?_
        rintro e w1 ⟨rfl, hb1⟩
        have z1 := Below.size hb1; try simp only [World.size_alloc, World.size_setCell, World.size_drew] at z1
        clear P
        go_wp2_with fail
        go_roundg (n - (j + 1))
        case measure => omega
        case rel => exact ⟨j + 1, by omega, rfl, by go_num, hnx.out, (by repeat (first | with_reducible exact Below.refl _ _ | (with_reducible refine Below.al ?_) | (with_reducible refine Below.drew ?_) | (with_reducible refine Below.set ?_ (by first | (simp; done) | omega | (simp; omega))) | (with_reducible refine Below.thru ?_ (by assumption)) | (with_reducible refine Below.chg ?_ (by assumption) (by first | (simp; done) | omega | (simp; omega)))))⟩
    · obtain rfl : j = n := by omega
      have hf : v = (0, false) := by rw [← hv.out]; exact meet_none (fun i hi => hno.out i hi (by have := hl.out; omega))
      subst hf
      go_wp2_with fail
      go_ret2
      exact Ret.mk rfl (by repeat (first | with_reducible exact Below.refl _ _ | (with_reducible refine Below.al ?_) | (with_reducible refine Below.drew ?_) | (with_reducible refine Below.set ?_ (by first | (simp; done) | omega | (simp; omega))) | (with_reducible refine Below.thru ?_ (by assumption)) | (with_reducible refine Below.chg ?_ (by assumption) (by first | (simp; done) | omega | (simp; omega)))))

def outB (n : Int) : Bool := decide (n < 0) || decide (255 < n)
def checkF (num : Int) (likes : List Int) : Int := if num < 1 ∨ 127 < num then 3 else if likes.length = 0 then 8 else if 20 < likes.length then 11 else if likes.any outB then 3 else 0
theorem out_any (n : Int) (w : World) : Calls Try.prog 140 #[.int .i64 n] w (Ret w (.bool (outB n))) := by
  unfold outB
  by_cases h : n < 0
  · have q : decide (n < 0) = true := decide_eq_true h
    rw [q]
    go_enter Try.func140, Try.ntmps140
    go_wp2_with fail
    go_ret
    exact Ret.mk rfl (by repeat (first | with_reducible exact Below.refl _ _ | (with_reducible refine Below.al ?_) | (with_reducible refine Below.drew ?_) | (with_reducible refine Below.set ?_ (by first | (simp; done) | omega | (simp; omega))) | (with_reducible refine Below.thru ?_ (by assumption)) | (with_reducible refine Below.chg ?_ (by assumption) (by first | (simp; done) | omega | (simp; omega)))))
  · have q : decide (n < 0) = false := decide_eq_false h
    rw [q, Bool.false_or]
    go_enter Try.func140, Try.ntmps140
    go_wp2_with fail
    go_ret
    exact Ret.mk rfl (by repeat (first | with_reducible exact Below.refl _ _ | (with_reducible refine Below.al ?_) | (with_reducible refine Below.drew ?_) | (with_reducible refine Below.set ?_ (by first | (simp; done) | omega | (simp; omega))) | (with_reducible refine Below.thru ?_ (by assumption)) | (with_reducible refine Below.chg ?_ (by assumption) (by first | (simp; done) | omega | (simp; omega)))))
set_option maxRecDepth 100000 in
set_option maxHeartbeats 800000 in
theorem check_any (num : Int) (l : List Int) (n : Nat) (hl : l.length = n) (hn : n ≤ 1000000) (a : Option Addr) (cap : Nat) (w : World) (h : Rd w a (i64s l)) :
    Calls Try.prog 104 #[.agg #[.int .i64 num, .slice a n cap]] w (Ret w (.int .i64 (checkF num l))) := by
  unfold checkF
  rw [hl]
  by_cases h1 : num < 1
  · have q : decide (num < 1) = true := decide_eq_true h1
    rw [if_pos (.inl h1)]
    go_enter Try.func104, Try.ntmps104
    go_wp2_with fail
    go_ret
    exact Ret.mk rfl (by repeat (first | with_reducible exact Below.refl _ _ | (with_reducible refine Below.al ?_) | (with_reducible refine Below.drew ?_) | (with_reducible refine Below.set ?_ (by first | (simp; done) | omega | (simp; omega))) | (with_reducible refine Below.thru ?_ (by assumption)) | (with_reducible refine Below.chg ?_ (by assumption) (by first | (simp; done) | omega | (simp; omega)))))
  · have q : decide (num < 1) = false := decide_eq_false h1
    by_cases h2 : 127 < num
    · have q2 : decide (127 < num) = true := decide_eq_true h2
      rw [if_pos (.inr h2)]
      go_enter Try.func104, Try.ntmps104
      go_wp2_with fail
      go_ret
      exact Ret.mk rfl (by repeat (first | with_reducible exact Below.refl _ _ | (with_reducible refine Below.al ?_) | (with_reducible refine Below.drew ?_) | (with_reducible refine Below.set ?_ (by first | (simp; done) | omega | (simp; omega))) | (with_reducible refine Below.thru ?_ (by assumption)) | (with_reducible refine Below.chg ?_ (by assumption) (by first | (simp; done) | omega | (simp; omega)))))
    · have q2 : decide (127 < num) = false := decide_eq_false h2
      rw [if_neg (by omega)]
      by_cases h3 : n = 0
      · have q3 : ((n : Int) == 0) = true := by simp; omega
        rw [if_pos h3]
        subst h3
        go_enter Try.func104, Try.ntmps104
        go_wp2_with fail
        go_ret
        exact Ret.mk rfl (by repeat (first | with_reducible exact Below.refl _ _ | (with_reducible refine Below.al ?_) | (with_reducible refine Below.drew ?_) | (with_reducible refine Below.set ?_ (by first | (simp; done) | omega | (simp; omega))) | (with_reducible refine Below.thru ?_ (by assumption)) | (with_reducible refine Below.chg ?_ (by assumption) (by first | (simp; done) | omega | (simp; omega)))))
      · have q3 : ((n : Int) == 0) = false := by simp; omega
        rw [if_neg h3]
        by_cases h4 : 20 < n
        · have q4 : decide ((20 : Int) < (n : Int)) = true := decide_eq_true (by omega)
          rw [if_pos h4]
          go_enter Try.func104, Try.ntmps104
          go_wp2_with fail
          go_ret
          exact Ret.mk rfl (by repeat (first | with_reducible exact Below.refl _ _ | (with_reducible refine Below.al ?_) | (with_reducible refine Below.drew ?_) | (with_reducible refine Below.set ?_ (by first | (simp; done) | omega | (simp; omega))) | (with_reducible refine Below.thru ?_ (by assumption)) | (with_reducible refine Below.chg ?_ (by assumption) (by first | (simp; done) | omega | (simp; omega)))))
        · have q4 : decide ((20 : Int) < (n : Int)) = false := decide_eq_false (by omega)
          rw [if_neg h4]
          have P := fun W hW => containsf_any l n hl hn a cap W (h.below hW) 140 #[] (enters_of Try.func140 (by kernel_rfl) rfl) outB (fun x w' _ => by simpa using out_any x w')
          cases hb : l.any outB with
          | true =>
            rw [hb] at P
            clear h
            have P1 := P (w.alloc (.cells #[.int .i64 num, .slice a n cap] 88)) (by repeat (first | with_reducible exact Below.refl _ _ | (with_reducible refine Below.al ?_) | (with_reducible refine Below.drew ?_) | (with_reducible refine Below.set ?_ (by first | (simp; done) | omega | (simp; omega))) | (with_reducible refine Below.thru ?_ (by assumption)) | (with_reducible refine Below.chg ?_ (by assumption) (by first | (simp; done) | omega | (simp; omega)))))
            clear P
            go_enter Try.func104, Try.ntmps104
            go_wp2_with fail
            refine Calls.mono (P1) ?_
            rintro e w1 ⟨rfl, hb1⟩
            have z1 := Below.size hb1; try simp only [World.size_alloc, World.size_setCell, World.size_drew] at z1
            clear P1
            go_wp2_with fail
            go_ret
            exact Ret.mk rfl (by repeat (first | with_reducible exact Below.refl _ _ | (with_reducible refine Below.al ?_) | (with_reducible refine Below.drew ?_) | (with_reducible refine Below.set ?_ (by first | (simp; done) | omega | (simp; omega))) | (with_reducible refine Below.thru ?_ (by assumption)) | (with_reducible refine Below.chg ?_ (by assumption) (by first | (simp; done) | omega | (simp; omega)))))
          | false =>
            rw [hb] at P
            clear h
            have P1 := P (w.alloc (.cells #[.int .i64 num, .slice a n cap] 88)) (by repeat (first | with_reducible exact Below.refl _ _ | (with_reducible refine Below.al ?_) | (with_reducible refine Below.drew ?_) | (with_reducible refine Below.set ?_ (by first | (simp; done) | omega | (simp; omega))) | (with_reducible refine Below.thru ?_ (by assumption)) | (with_reducible refine Below.chg ?_ (by assumption) (by first | (simp; done) | omega | (simp; omega)))))
            clear P
            go_enter Try.func104, Try.ntmps104
            go_wp2_with fail
            refine Calls.mono (P1) ?_
            rintro e w1 ⟨rfl, hb1⟩
            have z1 := Below.size hb1; try simp only [World.size_alloc, World.size_setCell, World.size_drew] at z1
            clear P1
            go_wp2_with fail
            go_ret
            exact Ret.mk rfl (by repeat (first | with_reducible exact Below.refl _ _ | (with_reducible refine Below.al ?_) | (with_reducible refine Below.drew ?_) | (with_reducible refine Below.set ?_ (by first | (simp; done) | omega | (simp; omega))) | (with_reducible refine Below.thru ?_ (by assumption)) | (with_reducible refine Below.chg ?_ (by assumption) (by first | (simp; done) | omega | (simp; omega)))))
end Go.Proofs.Ytljgmephajocaaa.Feat
