/- The walk of opts.Put. -/
import Derived.Test.YtljgmephajocaaaOptsCheck2
import Derived.Test.YtljgmephajocaaaBuildKeep
namespace Go.Proofs.Ytljgmephajocaaa.Opts
set_option linter.unusedSimpArgs false
set_option linter.unusedVariables false
open Go Go.RowKit Go.Proofs.Ytljgmephajocaaa Go.Proofs.Ytljgmephajocaaa.Build
attribute [local irreducible] Calls

def u8 (n : Int) : UInt8 := UInt8.ofNat n.toNat
def putB (x : El) : List UInt8 := if x.1 ≤ 31 then [u8 x.1] else [u8 x.1, u8 (2 + x.2.size)] ++ x.2.data.toList
def putAll (l : List El) : List UInt8 := l.flatMap putB
def padN (n : Nat) : Nat := (4 - n % 4) % 4
def putL (l : List El) : List UInt8 := putAll l ++ List.replicate (padN (putAll l).length) 0
theorem u8_nat {n : Int} (h0 : 0 ≤ n) (h : n ≤ 255) : ((u8 n).toNat : Int) = n := by
  unfold u8
  rw [UInt8.toNat_ofNat']
  omega
theorem wrap_u8 {n : Int} (h0 : 0 ≤ n) (h : n ≤ 255) : IntKind.u8.wrap n = ((u8 n).toNat : Int) := by
  rw [u8_nat h0 h]
  unfold IntKind.wrap
  simp [IntKind.signed, IntKind.bits]
  omega
theorem putAll_take {l : List El} {j : Nat} (hj : j < l.length) : putAll (l.take (j + 1)) = putAll (l.take j) ++ putB l[j] := by
  unfold putAll
  rw [List.take_succ_eq_append_getElem hj, List.flatMap_append]
  simp
theorem putB_len (x : El) : (putB x).length = szO x := by unfold putB szO; split <;> simp; omega
theorem putAll_len (l : List El) : (putAll l).length = szL l := by
  unfold putAll szL
  induction l with
  | nil => rfl
  | cons x l ih => simp [putB_len, ih]
/-- What an option that may be has. -/
theorem badO_ok {x : El} (h : badO x = 0) : 1 ≤ x.1 ∧ x.1 ≤ 255 ∧ (x.1 ≤ 31 → x.2.size = 0) ∧ x.2.size ≤ 253 := by
  unfold badO at h
  split at h
  · cases h
  · split at h
    · cases h
    · omega
theorem firstBad_ok {l : List El} (h : firstBad l = 0) : ∀ x ∈ l, badO x = 0 := by
  intro x hx
  unfold firstBad at h
  cases hf : l.find? (fun x => badO x != 0) with
  | none =>
    have := List.find?_eq_none.1 hf x hx
    simpa using this
  | some y =>
    rw [hf] at h
    have := List.find?_some hf
    simp at this
    exact absurd h this
theorem checkL_ok {l : List El} (h : checkL l = 0) : firstBad l = 0 ∧ mandBad l = false ∧ szL l ≤ 400 := by
  unfold checkL at h
  split at h
  · omega
  · rename_i hb
    split at h
    · cases h
    · rename_i hm
      split at h
      · cases h
      · exact ⟨by simpa using hb, by simpa using hm, by omega⟩
theorem szL_len {l : List El} (h : ∀ x ∈ l, 1 ≤ szO x) : l.length ≤ szL l := by
  unfold szL
  induction l with
  | nil => simp
  | cons x l ih =>
    have := ih fun y hy => h y (List.mem_cons_of_mem _ hy)
    have := h x (List.mem_cons_self ..)
    simp only [List.map_cons, List.sum_cons, List.length_cons]
    omega
theorem szO_pos (x : El) : 1 ≤ szO x := by unfold szO; split <;> omega
theorem szL_part {l : List El} (j : Nat) : szL (l.take j) ≤ szL l := by
  unfold szL
  rw [List.map_take]
  have := List.sum_append (l₁ := (l.map szO).take j) (l₂ := (l.map szO).drop j)
  rw [List.take_append_drop] at this
  omega

theorem pad_more {n i : Nat} (h : i < padN n) : (n + i) % 4 ≠ 0 := by unfold padN at h; omega
theorem pad_done (n : Nat) : (n + padN n) % 4 = 0 := by unfold padN; omega
set_option maxRecDepth 100000 in
set_option maxHeartbeats 1000000 in
theorem put_any (l : List El) (n : Nat) (hl : l.length = n) (hf : Few l) (a : Option Addr) (cap : Nat) (w : World) (h : Rd w a (encs l)) :
    Calls Try.prog 38 #[.slice a n cap] w (Ret w (.tuple #[.string (if checkL l = 0 then ⟨(putL l).toArray⟩ else ⟨#[]⟩), .int .i64 (checkL l)])) := by
  have hn : n ≤ 3000 := by rw [← hl]; exact hf.1
  have C := check_any l n hl hf a cap w h
  by_cases hc : checkL l = 0
  · obtain ⟨hfb, _, h400⟩ := checkL_ok hc
    have hok := fun x hx => badO_ok (firstBad_ok hfb x hx)
    rw [if_pos hc, hc]
    rw [hc] at C
    clear hc hfb
    replace h := Lib.hid h; replace hl := Lib.hid hl; replace hok := Lib.hid hok; replace hf := Lib.hid hf; replace h400 := Lib.hid h400
    go_enter Try.func38, Try.ntmps38
    go_wp2_with fail
    refine Calls.mono (C) ?_
    rintro e w1 ⟨rfl, hb1⟩
    have z1 := Below.size hb1; try simp only [World.size_alloc, World.size_setCell, World.size_drew] at z1
    clear C
    have hB0 : Bld w.heap.size w1.heap.size [] (w1.alloc (.cells #[.pointer none, .slice none 0 0] 144)) := (Bld.new w1).base (by omega)
    replace hB0 := Lib.hid hB0
    go_wp2_with fail
    go_loopg [7, 15] n (fun g _ i wr => ∃ (j : Nat), j ≤ n ∧ g = n - j ∧ i = .int .i64 j ∧ Hid (Bld w.heap.size w1.heap.size (putAll (l.take j)) wr) ∧ Below w.heap.size w wr)
    case atStart => exact ⟨0, by omega, by omega, rfl, Lib.hid (by simpa [putAll] using hB0.out), (by repeat (first | with_reducible exact Below.refl _ _ | (with_reducible refine Below.al ?_) | (with_reducible refine Below.drew ?_) | (with_reducible refine Below.set ?_ (by first | (simp; done) | omega | (simp; omega))) | (with_reducible refine Below.thru ?_ (by assumption)) | (with_reducible refine Below.chg ?_ (by assumption) (by first | (simp; done) | omega | (simp; omega)))))⟩
    case round =>
      obtain ⟨j, hj, hg, rfl, hB, hbw⟩ := hrel
      have zw := hbw.size
      by_cases hlt : j < n
      · have hjl : j < l.length := by have := hl.out; omega
        obtain ⟨b, off, rfl, hb, hc⟩ := els_at (h.out.below hbw) hl.out (by omega)
        obtain ⟨e0, e1⟩ := hc j hjl
        obtain ⟨k1, k2, k3, k4⟩ := hok.out l[j] (List.getElem_mem hjl)
        have hnx := putAll_take hjl
        have hpl : (putAll (l.take j)).length ≤ 400 := by
          rw [putAll_len]
          have := szL_part (l := l) j
          have := h400.out
          omega
        have PS := size_any l[j] (by omega)
        clear hc
        generalize l[j] = y at *
        obtain ⟨k, v⟩ := y
        unfold val szO at PS
        unfold putB at hnx
        simp only at e0 e1 k1 k2 k3 k4 hnx PS
        obtain ⟨pl, hpl'⟩ : ∃ pl, putAll (l.take j) = pl := ⟨_, rfl⟩
        rw [hpl'] at hB hnx hpl
        clear hpl'
        have hK0 : (wr.alloc (.cells #[.int .i64 k, .string v] 73)).heap[wr.heap.size]? = some (.cells #[.int .i64 k, .string v] 73 (0, 0)) := Go.heap_alloc_new wr _
        have hbA := (Below.refl wr.heap.size wr).alloc (Nat.le_refl _) (.cells #[.int .i64 k, .string v] 73)
        have P := byte_keep w.heap.size w1.heap.size pl (u8 k) _ (hB.out.thru hbA) (by omega) (by simp; omega)
        rw [u8_nat (by omega) k2] at P
        by_cases hk : k ≤ 31
        · have q : decide ((31 : Int) < k) = false := decide_eq_false (by omega)
          rw [if_pos hk] at hnx
          replace hnx := Lib.hid hnx; replace hB := Lib.hid hB; replace PS := Lib.hid PS; replace hpl := Lib.hid hpl; replace hK0 := Lib.hid hK0
          go_wp2_with fail
          refine Calls.mono P ?_
          rintro e w2 ⟨rfl, hB2, hb2, hk2⟩
          have hK2 := hk2 _ _ _ (by decide) (by decide) hK0.out
          have c2 : ∀ o, w2.cell? ⟨wr.heap.size, o, none⟩ = [Value.int .i64 k, .string v][o]? := fun o => by rw [Lib.cell_of_heap hK2]; simp
          have hbw2 := hbw.trans (((Below.refl w.heap.size wr).alloc (by omega) (.cells #[.int .i64 k, .string v] 73)).trans hb2)
          have z2 := lt_of_heap hK2
          clear hK2 hk2 P
          replace hB2 := Lib.hid hB2
          go_wp2_with fail
          go_roundg (n - (j + 1))
          case measure => omega
          case rel => exact ⟨j + 1, by omega, rfl, by go_num, by rw [hnx.out]; exact hB2, hbw2⟩
        · have q : decide ((31 : Int) < k) = true := decide_eq_true (by omega)
          rw [if_neg hk] at hnx
          simp only [if_neg hk] at PS
          have e2 : ((2 + v.size : Nat) : Int) = 2 + (v.size : Int) := by omega
          rw [e2] at PS
          replace hnx := Lib.hid hnx; replace hB := Lib.hid hB; replace PS := Lib.hid PS; replace hpl := Lib.hid hpl; replace hK0 := Lib.hid hK0
          go_wp2_with fail
          refine Calls.mono P ?_
          rintro e w2 ⟨rfl, hB2, hb2, hk2⟩
          have hK2 := hk2 _ _ _ (by decide) (by decide) hK0.out
          have c2 : ∀ o, w2.cell? ⟨wr.heap.size, o, none⟩ = [Value.int .i64 k, .string v][o]? := fun o => by rw [Lib.cell_of_heap hK2]; simp
          have hbw2 := hbw.trans (((Below.refl w.heap.size wr).alloc (by omega) (.cells #[.int .i64 k, .string v] 73)).trans hb2)
          have z2 := lt_of_heap hK2
          clear hk2 P
          replace hB2 := Lib.hid hB2; replace hK2 := Lib.hid hK2
          go_wp2_with fail
          refine Calls.mono (PS.out _) ?_
          rintro e w3 ⟨rfl, hb3⟩
          have hK3 := Keep.below hb3 _ _ _ (by decide) (by decide) hK2.out
          have c3 : ∀ o, w3.cell? ⟨wr.heap.size, o, none⟩ = [Value.int .i64 k, .string v][o]? := fun o => by rw [Lib.cell_of_heap hK3]; simp
          have hbw3 := hbw2.trans (hb3.mono hbw2.size)
          have z3 := lt_of_heap hK3
          have P := byte_keep w.heap.size w1.heap.size (pl ++ [u8 k]) (u8 (2 + v.size)) _ (hB2.out.thru hb3) (by have := hpl.out; simp; omega) hbw3.size
          rw [u8_nat (by omega) (by omega)] at P
          clear PS
          replace hK3 := Lib.hid hK3
          go_wp2_with fail
          refine Calls.mono P ?_
          rintro e w4 ⟨rfl, hB4, hb4, hk4⟩
          have hK4 := hk4 _ _ _ (by decide) (by decide) hK3.out
          have c4 : ∀ o, w4.cell? ⟨wr.heap.size, o, none⟩ = [Value.int .i64 k, .string v][o]? := fun o => by rw [Lib.cell_of_heap hK4]; simp
          have hbw4 := hbw3.trans hb4
          have z4 := lt_of_heap hK4
          have P2 := puts_keep w.heap.size w1.heap.size (pl ++ [u8 k] ++ [u8 (2 + v.size)]) v _ hB4 (by simp) (by have := hpl.out; simp; omega) hbw4.size
          clear hK4 hk4 P hB4
          go_wp2_with fail
          refine Calls.mono P2 ?_
          rintro e w5 ⟨rfl, hB5, hb5⟩
          have hbw5 := hbw4.trans hb5
          clear P2
          replace hB5 := Lib.hid hB5
          go_wp2_with fail
          go_roundg (n - (j + 1))
          case measure => omega
          case rel => exact ⟨j + 1, by omega, rfl, by go_num, (by rw [hnx.out]; refine Lib.hid ?_; simpa [List.append_assoc] using hB5.out), hbw5⟩
      · obtain rfl : j = n := by omega
        rw [List.take_of_length_le (by have := hl.out; omega)] at hB
        have hpl : (putAll l).length ≤ 400 := by
          rw [putAll_len]
          exact h400.out
        have hEq : putL l = putAll l ++ List.replicate (padN (putAll l).length) 0 := rfl
        generalize putAll l = pl at *
        replace hEq := Lib.hid hEq
        obtain ⟨wo, hwo⟩ : ∃ wo : World, wo = wr := ⟨_, rfl⟩
        subst hwo
        clear hg hlt
        go_wp2_with fail
        go_loopg [] (padN pl.length) (fun g wr => ∃ (i : Nat), i ≤ padN pl.length ∧ g = padN pl.length - i ∧ Hid (Bld w.heap.size w1.heap.size (pl ++ List.replicate i 0) wr) ∧ Below w.heap.size w wr)
        case atStart => exact ⟨0, by omega, by omega, Lib.hid (by simpa using hB.out), hbw⟩
        case round =>
          obtain ⟨i, hi, hg, hB2, hbw2⟩ := hrel
          have P := len_any _ _ _ _ hB2.out
          rw [List.length_append, List.length_replicate] at P
          obtain ⟨m, hm⟩ : ∃ m, pl.length + i = m := ⟨_, rfl⟩
          rw [hm] at P
          by_cases hlt : i < padN pl.length
          · have q : ((m : Int) % 4 != 0) = true := by have := pad_more hlt; simp; omega
            go_wp2_with fail
            refine Calls.mono P ?_
            rintro e w2 ⟨rfl, hb2⟩
            have hbw3 := hbw2.trans (hb2.mono hbw2.size)
            have P2 := byte_keep w.heap.size w1.heap.size (pl ++ List.replicate i 0) 0 _ (hB2.out.thru hb2) (by have := hlt; unfold padN at this; simp; omega) hbw3.size
            rw [show (((0 : UInt8).toNat : Nat) : Int) = 0 from rfl] at P2
            clear P
            go_wp2_with fail
            refine Calls.mono P2 ?_
            rintro e w3 ⟨rfl, hB3, hb3, _⟩
            have hbw4 := hbw3.trans hb3
            clear P2
            replace hB3 := Lib.hid hB3
            go_wp2_with fail
            go_roundg (padN pl.length - (i + 1))
            case measure => omega
            case rel => exact ⟨i + 1, by omega, rfl, by rw [List.replicate_succ', ← List.append_assoc]; exact hB3, hbw4⟩
          · obtain rfl : i = padN pl.length := by omega
            have q : ((m : Int) % 4 != 0) = false := by have := pad_done pl.length; simp; omega
            have P2 := fun w2 hb2 => str_any w.heap.size w1.heap.size _ w2 (hB2.out.thru (w' := w2) hb2)
            rw [← hEq.out] at P2
            replace P2 := Lib.hid P2
            go_wp2_with fail
            refine Calls.mono P ?_
            rintro e w2 ⟨rfl, hb2⟩
            clear P
            go_wp2_with fail
            refine Calls.mono (P2.out w2 hb2) ?_
            rintro e w3 ⟨rfl, hb3⟩
            have hbw4 := (hbw2.trans (hb2.mono hbw2.size)).trans hb3
            clear P2
            go_wp2_with fail
            go_ret2
            exact ⟨rfl, hbw4⟩
  · have q : (checkL l != 0) = true := by simp [hc]
    rw [if_neg hc]
    generalize checkL l = ck at *
    replace h := Lib.hid h; replace hl := Lib.hid hl; replace hf := Lib.hid hf; replace hc := Lib.hid hc
    go_enter Try.func38, Try.ntmps38
    go_wp2_with fail
    refine Calls.mono (C) ?_
    rintro e w1 ⟨rfl, hb1⟩
    have z1 := Below.size hb1; try simp only [World.size_alloc, World.size_setCell, World.size_drew] at z1
    go_wp2_with fail
    go_ret2
    exact Ret.mk rfl (by repeat (first | with_reducible exact Below.refl _ _ | (with_reducible refine Below.al ?_) | (with_reducible refine Below.drew ?_) | (with_reducible refine Below.set ?_ (by first | (simp; done) | omega | (simp; omega))) | (with_reducible refine Below.thru ?_ (by assumption)) | (with_reducible refine Below.chg ?_ (by assumption) (by first | (simp; done) | omega | (simp; omega)))))
end Go.Proofs.Ytljgmephajocaaa.Opts
