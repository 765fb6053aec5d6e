
/- The walks of the package opts, and of its answer: Size, Check. -/
import Derived.Test.YtpajedpkdfacoaaMore
import Derived.Deep.LoopGhost
namespace Go.Proofs.Ytpajedpkdfacoaa.Opts
set_option linter.unusedSimpArgs false
set_option linter.unusedVariables false
open Go Go.RowKit Go.Proofs.Ytpajedpkdfacoaa
attribute [local irreducible] Calls

abbrev El := Int × ByteArray
def enc (x : El) : List Value := [.int .i64 x.1, .string x.2]
def val (x : El) : Value := .agg #[.int .i64 x.1, .string x.2]
def encs (l : List El) : List Value := l.flatMap enc
theorem enc_len (x : El) : (enc x).length = 2 := rfl
theorem encs_len (l : List El) : (encs l).length = l.length * 2 := flat_len enc_len l
theorem encs_app (l : List El) (x : El) : encs l ++ enc x = encs (l ++ [x]) := by simp [encs]
theorem encs_one (l : List El) : ∀ u ∈ encs l, u.oneCell' = true := by
  intro u hu
  obtain ⟨x, _, h⟩ := List.mem_flatMap.1 hu
  have : ∀ u ∈ enc x, u.oneCell' = true := by simp [enc, Value.oneCell']
  exact this u h
theorem els_at {w : World} {a : Option Addr} {l : List El} (h : Rd w a (encs l)) {n : Nat} (hn : l.length = n) (h0 : 0 < n) :
    ∃ b off, a = some ⟨b, off, none⟩ ∧ b < w.heap.size ∧ ∀ i (hi : i < l.length), w.cell? ⟨b, off + i * 2, none⟩ = some (.int .i64 l[i].1) ∧ w.cell? ⟨b, off + i * 2 + 1, none⟩ = some (.string l[i].2) := by
  obtain ⟨b, off, e, hb, hc⟩ := Rd.rows enc_len (by omega) h hn h0
  exact ⟨b, off, e, hb, fun i hi => ⟨hc i hi 0 _ rfl, hc i hi 1 _ rfl⟩⟩
/-- Few options, none of them long. -/
def Few (l : List El) : Prop := l.length ≤ 3000 ∧ ∀ x ∈ l, isI64 x.1 ∧ x.2.size ≤ 3000

def szO (x : El) : Nat := if x.1 ≤ 31 then 1 else 2 + x.2.size
def szL (l : List El) : Nat := (l.map szO).sum
def badO (x : El) : Int := if x.1 ≤ 0 ∨ 255 < x.1 then 7 else if (x.1 ≤ 31 ∧ x.2.size ≠ 0) ∨ 253 < x.2.size then 11 else 0
def firstBad (l : List El) : Int := match l.find? (fun x => badO x != 0) with | some x => badO x | none => 0
def mandAt (l : List El) (i : Nat) : Bool := (l[i]?.map (·.1) == some 1) && (decide (i + 1 = l.length) || (l[i + 1]?.map (·.1) == some 1))
def mandBad (l : List El) : Bool := (List.range l.length).any (mandAt l)
def checkL (l : List El) : Int := if firstBad l ≠ 0 then firstBad l else if mandBad l then 4 else if 400 < szL l then 11 else 0

theorem firstBad_no {l : List El} (h : ∀ i (hi : i < l.length), badO l[i] = 0) : firstBad l = 0 := by
  unfold firstBad
  have : l.find? (fun x => badO x != 0) = none := by
    rw [List.find?_eq_none]
    intro x hx
    obtain ⟨i, hi, rfl⟩ := List.getElem_of_mem hx
    simp [h i hi]
  rw [this]
theorem firstBad_at {l : List El} {j : Nat} (hj : j < l.length) (hb : badO l[j] ≠ 0) (h : ∀ i (hi : i < l.length), i < j → badO l[i] = 0) : firstBad l = badO l[j] := by
  unfold firstBad
  have : l.find? (fun x => badO x != 0) = some l[j] := by
    rw [List.find?_eq_some_iff_getElem]
    refine ⟨by simpa using hb, j, hj, rfl, fun k hk => ?_⟩
    simp [h k (by omega) hk]
  rw [this]
theorem mandBad_no {l : List El} (h : ∀ i, i < l.length → mandAt l i = false) : mandBad l = false := by
  unfold mandBad
  rw [List.any_eq_false]
  intro i hi
  rw [h i (List.mem_range.1 hi)]
  simp
theorem mandBad_at {l : List El} {j : Nat} (hj : j < l.length) (h : mandAt l j = true) : mandBad l = true := by
  unfold mandBad
  rw [List.any_eq_true]
  exact ⟨j, List.mem_range.2 hj, h⟩
theorem mand_last {l : List El} {j : Nat} (hj : j < l.length) (hl : j + 1 = l.length) : mandAt l j = decide (l[j].1 = 1) := by
  unfold mandAt
  rw [List.getElem?_eq_getElem hj]
  by_cases h : l[j].1 = 1 <;> simp [hl, h]
theorem mand_next {l : List El} {j : Nat} (hj : j + 1 < l.length) : mandAt l j = (decide (l[j].1 = 1) && decide (l[j + 1].1 = 1)) := by
  unfold mandAt
  rw [List.getElem?_eq_getElem (by omega), List.getElem?_eq_getElem hj, decide_eq_false (show ¬ j + 1 = l.length by omega)]
  by_cases h : l[j].1 = 1 <;> by_cases h2 : l[j + 1].1 = 1 <;> simp [h, h2]
theorem szL_take {l : List El} {j : Nat} (hj : j < l.length) : szL (l.take (j + 1)) = szL (l.take j) + szO l[j] := by
  unfold szL
  rw [List.take_succ_eq_append_getElem hj, List.map_append, List.sum_append]
  simp only [List.map_cons, List.map_nil, List.sum_cons, List.sum_nil, Nat.add_zero]
theorem szL_le {l : List El} (h : ∀ x ∈ l, szO x ≤ 3002) : szL l ≤ l.length * 3002 := by
  unfold szL
  induction l with
  | nil => simp
  | cons x l ih =>
    have := ih fun y hy => h y (List.mem_cons_of_mem _ hy)
    have := h x (List.mem_cons_self ..)
    simp only [List.map_cons, List.sum_cons, List.length_cons]
    omega
theorem szO_le {x : El} (h : x.2.size ≤ 3000) : szO x ≤ 3002 := by unfold szO; split <;> omega
theorem few_take {l : List El} (h : Few l) (j : Nat) : szL (l.take j) ≤ 9006000 := by
  have h1 : szL (l.take j) ≤ (l.take j).length * 3002 := szL_le fun x hx => szO_le (h.2 x (List.mem_of_mem_take hx)).2
  have h2 : (l.take j).length ≤ 3000 := by have := h.1; simp only [List.length_take]; omega
  omega

theorem size_any (x : El) (hx : x.2.size ≤ 3000) (w : World) : Calls Try.prog 118 #[val x] w (Ret w (.int .i64 (szO x : Nat))) := by
  obtain ⟨k, v⟩ := x
  unfold val szO
  simp only at hx ⊢
  by_cases h : k ≤ 31
  · have q : decide (k ≤ 31) = true := decide_eq_true h
    rw [if_pos h]
    go_enter Try.func118, Try.ntmps118
    go_wp2_with fail
    go_ret
    exact Ret.mk rfl (by repeat (first | with_reducible exact Below.refl _ _ | (with_reducible refine Below.al ?_) | (with_reducible refine Below.drew ?_) | (with_reducible refine Below.set ?_ (by first | (simp; done) | omega | (simp; omega))) | (with_reducible refine Below.thru ?_ (by assumption)) | (with_reducible refine Below.chg ?_ (by assumption) (by first | (simp; done) | omega | (simp; omega)))))
  · have q : decide (k ≤ 31) = false := decide_eq_false h
    have e : (((2 + v.size : Nat)) : Int) = 2 + (v.size : Int) := by omega
    rw [if_neg h, e]
    clear e
    go_enter Try.func118, Try.ntmps118
    go_wp2_with fail
    go_ret
    exact Ret.mk rfl (by repeat (first | with_reducible exact Below.refl _ _ | (with_reducible refine Below.al ?_) | (with_reducible refine Below.drew ?_) | (with_reducible refine Below.set ?_ (by first | (simp; done) | omega | (simp; omega))) | (with_reducible refine Below.thru ?_ (by assumption)) | (with_reducible refine Below.chg ?_ (by assumption) (by first | (simp; done) | omega | (simp; omega)))))
theorem str_emp {s : ByteArray} : s.toList.isEmpty = decide (s.size = 0) := by
  rw [ByteArray.toList_eq]
  have h : s.data.toList.length = s.size := by simp
  cases hq : s.data.toList with
  | nil => rw [hq] at h; simp at h; simp [← h]
  | cons a l =>
    rw [hq] at h
    rw [decide_eq_false (by simp at h; omega)]
    rfl
theorem right_any (x : El) (hx : x.2.size ≤ 3000) (w : World) : Calls Try.prog 81 #[val x] w (Ret w (.int .i64 (badO x))) := by
  obtain ⟨k, v⟩ := x
  unfold val badO
  simp only at hx ⊢
  by_cases h1 : k ≤ 0
  · have q1 : decide (k ≤ 0) = true := decide_eq_true h1
    rw [if_pos (.inl h1)]
    go_enter Try.func81, Try.ntmps81
    go_wp2_with fail
    go_ret
    exact Ret.mk rfl (by repeat (first | with_reducible exact Below.refl _ _ | (with_reducible refine Below.al ?_) | (with_reducible refine Below.drew ?_) | (with_reducible refine Below.set ?_ (by first | (simp; done) | omega | (simp; omega))) | (with_reducible refine Below.thru ?_ (by assumption)) | (with_reducible refine Below.chg ?_ (by assumption) (by first | (simp; done) | omega | (simp; omega)))))
  · have q1 : decide (k ≤ 0) = false := decide_eq_false h1
    by_cases h2 : 255 < k
    · have q2 : decide (255 < k) = true := decide_eq_true h2
      rw [if_pos (.inr h2)]
      go_enter Try.func81, Try.ntmps81
      go_wp2_with fail
      go_ret
      exact Ret.mk rfl (by repeat (first | with_reducible exact Below.refl _ _ | (with_reducible refine Below.al ?_) | (with_reducible refine Below.drew ?_) | (with_reducible refine Below.set ?_ (by first | (simp; done) | omega | (simp; omega))) | (with_reducible refine Below.thru ?_ (by assumption)) | (with_reducible refine Below.chg ?_ (by assumption) (by first | (simp; done) | omega | (simp; omega)))))
    · have q2 : decide (255 < k) = false := decide_eq_false h2
      rw [if_neg (by omega)]
      by_cases h3 : k ≤ 31
      · have q3 : decide (k ≤ 31) = true := decide_eq_true h3
        by_cases h4 : v.size = 0
        · have q4 : decide (v.size = 0) = true := decide_eq_true h4
          have q5 : decide ((253 : Int) < v.size) = false := decide_eq_false (by omega)
          have q6 : v.toList.isEmpty = true := by rw [str_emp]; exact q4
          rw [if_neg (by omega)]
          go_enter Try.func81, Try.ntmps81
          go_wp2_with fail
          go_ret
          exact Ret.mk rfl (by repeat (first | with_reducible exact Below.refl _ _ | (with_reducible refine Below.al ?_) | (with_reducible refine Below.drew ?_) | (with_reducible refine Below.set ?_ (by first | (simp; done) | omega | (simp; omega))) | (with_reducible refine Below.thru ?_ (by assumption)) | (with_reducible refine Below.chg ?_ (by assumption) (by first | (simp; done) | omega | (simp; omega)))))
        · have q6 : v.toList.isEmpty = false := by rw [str_emp]; exact decide_eq_false h4
          rw [if_pos (.inl ⟨h3, h4⟩)]
          go_enter Try.func81, Try.ntmps81
          go_wp2_with fail
          go_ret
          exact Ret.mk rfl (by repeat (first | with_reducible exact Below.refl _ _ | (with_reducible refine Below.al ?_) | (with_reducible refine Below.drew ?_) | (with_reducible refine Below.set ?_ (by first | (simp; done) | omega | (simp; omega))) | (with_reducible refine Below.thru ?_ (by assumption)) | (with_reducible refine Below.chg ?_ (by assumption) (by first | (simp; done) | omega | (simp; omega)))))
      · have q3 : decide (k ≤ 31) = false := decide_eq_false h3
        by_cases h5 : 253 < v.size
        · have q5 : decide ((253 : Int) < v.size) = true := decide_eq_true (by omega)
          rw [if_pos (.inr h5)]
          go_enter Try.func81, Try.ntmps81
          go_wp2_with fail
          go_ret
          exact Ret.mk rfl (by repeat (first | with_reducible exact Below.refl _ _ | (with_reducible refine Below.al ?_) | (with_reducible refine Below.drew ?_) | (with_reducible refine Below.set ?_ (by first | (simp; done) | omega | (simp; omega))) | (with_reducible refine Below.thru ?_ (by assumption)) | (with_reducible refine Below.chg ?_ (by assumption) (by first | (simp; done) | omega | (simp; omega)))))
        · have q5 : decide ((253 : Int) < v.size) = false := decide_eq_false (by omega)
          rw [if_neg (by omega)]
          go_enter Try.func81, Try.ntmps81
          go_wp2_with fail
          go_ret
          exact Ret.mk rfl (by repeat (first | with_reducible exact Below.refl _ _ | (with_reducible refine Below.al ?_) | (with_reducible refine Below.drew ?_) | (with_reducible refine Below.set ?_ (by first | (simp; done) | omega | (simp; omega))) | (with_reducible refine Below.thru ?_ (by assumption)) | (with_reducible refine Below.chg ?_ (by assumption) (by first | (simp; done) | omega | (simp; omega)))))

set_option maxRecDepth 100000 in
theorem sizeL_any (l : List El) (n : Nat) (hl : l.length = n) (hf : Few l) (a : Option Addr) (cap : Nat) (w : World) (h : Rd w a (encs l)) :
    Calls Try.prog 82 #[.slice a n cap] w (Ret w (.int .i64 (szL l : Nat))) := by
  have hn : n ≤ 3000 := by rw [← hl]; exact hf.1
  replace h := Lib.hid h; replace hl := Lib.hid hl; replace hf := Lib.hid hf
  go_enter Try.func82, Try.ntmps82
  go_wp2_with fail
  go_loopg [3, 5, 8] n (fun g t _ i wr => ∃ (j x : Nat), j ≤ n ∧ g = n - j ∧ i = .int .i64 j ∧ t = .int .i64 x ∧ Hid (x = szL (l.take j)) ∧ Below w.heap.size w wr)
  case atStart => exact ⟨0, 0, by omega, by omega, rfl, rfl, Lib.hid (by simp [szL]), (by repeat (first | with_reducible exact Below.refl _ _ | (with_reducible refine Below.al ?_) | (with_reducible refine Below.drew ?_) | (with_reducible refine Below.set ?_ (by first | (simp; done) | omega | (simp; omega))) | (with_reducible refine Below.thru ?_ (by assumption)) | (with_reducible refine Below.chg ?_ (by assumption) (by first | (simp; done) | omega | (simp; omega)))))⟩
  case round =>
    obtain ⟨j, x, hj, hg, rfl, rfl, hx, hbw⟩ := hrel
    have hxb := few_take hf.out j
    rw [← hx.out] at hxb
    by_cases hlt : j < n
    · have hjl : j < l.length := by have := hl.out; omega
      obtain ⟨b, off, rfl, hb, hc⟩ := els_at (h.out.below hbw) hl.out (by omega)
      obtain ⟨e0, e1⟩ := hc j hjl
      have ho := (hf.out.2 l[j] (List.getElem_mem hjl)).2
      have hn2 := szL_take hjl
      have P := size_any l[j] ho
      have hs := szO_le ho
      clear hc ho
      generalize l[j] = y at *
      unfold val at P
      rw [← hx.out] at hn2
      obtain ⟨z, hz⟩ : ∃ z, szO y = z := ⟨_, rfl⟩
      rw [hz] at P hn2 hs
      clear hz
      replace hn2 := Lib.hid hn2; replace P := Lib.hid P
      go_wp2_with fail
      refine Calls.mono (P.out _) ?_
      rintro e w1 ⟨rfl, hb1⟩
      have z1 := Below.size hb1; try simp only [World.size_alloc, World.size_setCell, World.size_drew] at z1
      go_wp2_with fail
      go_roundg (n - (j + 1))
      case measure => omega
      case rel => exact ⟨j + 1, x + z, by omega, rfl, by go_num, by go_num, hn2.out.symm, (by repeat (first | with_reducible exact Below.refl _ _ | (with_reducible refine Below.al ?_) | (with_reducible refine Below.drew ?_) | (with_reducible refine Below.set ?_ (by first | (simp; done) | omega | (simp; omega))) | (with_reducible refine Below.thru ?_ (by assumption)) | (with_reducible refine Below.chg ?_ (by assumption) (by first | (simp; done) | omega | (simp; omega)))))⟩
    · obtain rfl : j = n := by omega
      rw [List.take_of_length_le (by have := hl.out; omega)] at hx
      have hx2 : (szL l : Nat) = x := hx.out.symm
      replace hx2 := Lib.hid hx2
      go_wp2_with fail
      go_ret
      exact Ret.mk (by rw [hx2.out]; rfl) (by repeat (first | with_reducible exact Below.refl _ _ | (with_reducible refine Below.al ?_) | (with_reducible refine Below.drew ?_) | (with_reducible refine Below.set ?_ (by first | (simp; done) | omega | (simp; omega))) | (with_reducible refine Below.thru ?_ (by assumption)) | (with_reducible refine Below.chg ?_ (by assumption) (by first | (simp; done) | omega | (simp; omega)))))
set_option maxRecDepth 100000 in
theorem rsize_any (l : List El) (n : Nat) (hl : l.length = n) (hf : Few l) (a : Option Addr) (cap : Nat) (w : World) (h : Rd w a (encs l)) :
    Calls Try.prog 44 #[.slice a n cap] w (Ret w (.int .i64 (szL l : Nat))) := by
  have hn : n ≤ 3000 := by rw [← hl]; exact hf.1
  replace h := Lib.hid h; replace hl := Lib.hid hl; replace hf := Lib.hid hf
  go_enter Try.func44, Try.ntmps44
  go_wp2_with fail
  go_loopg [3, 4] n (fun g t i wr => ∃ (j x : Nat), j ≤ n ∧ g = n - j ∧ i = .int .i64 j ∧ t = .int .i64 x ∧ Hid (x = szL (l.take j)) ∧ Below w.heap.size w wr)
  case atStart => exact ⟨0, 0, by omega, by omega, rfl, rfl, Lib.hid (by simp [szL]), (by repeat (first | with_reducible exact Below.refl _ _ | (with_reducible refine Below.al ?_) | (with_reducible refine Below.drew ?_) | (with_reducible refine Below.set ?_ (by first | (simp; done) | omega | (simp; omega))) | (with_reducible refine Below.thru ?_ (by assumption)) | (with_reducible refine Below.chg ?_ (by assumption) (by first | (simp; done) | omega | (simp; omega)))))⟩
  case round =>
    obtain ⟨j, x, hj, hg, rfl, rfl, hx, hbw⟩ := hrel
    have hxb := few_take hf.out j
    rw [← hx.out] at hxb
    by_cases hlt : j < n
    · have hjl : j < l.length := by have := hl.out; omega
      obtain ⟨b, off, rfl, hb, hc⟩ := els_at (h.out.below hbw) hl.out (by omega)
      obtain ⟨e0, e1⟩ := hc j hjl
      have ho := (hf.out.2 l[j] (List.getElem_mem hjl)).2
      have hn2 := szL_take hjl
      clear hc
      generalize l[j] = y at *
      obtain ⟨k, v⟩ := y
      rw [← hx.out] at hn2
      unfold szO at hn2
      simp only at e0 e1 ho hn2
      by_cases hk : k ≤ 31
      · have q : decide ((31 : Int) < k) = false := decide_eq_false (by omega)
        rw [if_pos hk] at hn2
        replace hn2 := Lib.hid hn2
        go_wp2_with fail
        go_roundg (n - (j + 1))
        case measure => omega
        case rel => exact ⟨j + 1, x + 1, by omega, rfl, by go_num, by go_num, hn2.out.symm, (by repeat (first | with_reducible exact Below.refl _ _ | (with_reducible refine Below.al ?_) | (with_reducible refine Below.drew ?_) | (with_reducible refine Below.set ?_ (by first | (simp; done) | omega | (simp; omega))) | (with_reducible refine Below.thru ?_ (by assumption)) | (with_reducible refine Below.chg ?_ (by assumption) (by first | (simp; done) | omega | (simp; omega)))))⟩
      · have q : decide ((31 : Int) < k) = true := decide_eq_true (by omega)
        rw [if_neg hk] at hn2
        replace hn2 := Lib.hid hn2
        go_wp2_with fail
        go_roundg (n - (j + 1))
        case measure => omega
        case rel => exact ⟨j + 1, x + (2 + v.size), by omega, rfl, by go_num, (by first | go_num | (congr 1; push_cast; omega)), hn2.out.symm, (by repeat (first | with_reducible exact Below.refl _ _ | (with_reducible refine Below.al ?_) | (with_reducible refine Below.drew ?_) | (with_reducible refine Below.set ?_ (by first | (simp; done) | omega | (simp; omega))) | (with_reducible refine Below.thru ?_ (by assumption)) | (with_reducible refine Below.chg ?_ (by assumption) (by first | (simp; done) | omega | (simp; omega)))))⟩
    · obtain rfl : j = n := by omega
      rw [List.take_of_length_le (by have := hl.out; omega)] at hx
      have hx2 : (szL l : Nat) = x := hx.out.symm
      replace hx2 := Lib.hid hx2
      go_wp2_with fail
      go_ret
      exact Ret.mk (by rw [hx2.out]; rfl) (by repeat (first | with_reducible exact Below.refl _ _ | (with_reducible refine Below.al ?_) | (with_reducible refine Below.drew ?_) | (with_reducible refine Below.set ?_ (by first | (simp; done) | omega | (simp; omega))) | (with_reducible refine Below.thru ?_ (by assumption)) | (with_reducible refine Below.chg ?_ (by assumption) (by first | (simp; done) | omega | (simp; omega)))))
end Go.Proofs.Ytpajedpkdfacoaa.Opts
