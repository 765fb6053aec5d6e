/- The walks of bytes in writing: digit, Hex, and the answer of Hex. -/
import Derived.Test.YtkphbgicffhceaaDoorWordOf
import Derived.Test.YtkphbgicffhceaaDoorMade
import Derived.Laws.MakeOwn
import Derived.Laws.BitsLemmas
namespace Go.Proofs.YtkphbgicffhceaaDoor.Words
set_option linter.unusedSimpArgs false
set_option linter.unusedVariables false
open Go Go.RowKit Go.Proofs.YtkphbgicffhceaaDoor
attribute [local irreducible] Calls

def digN (n : Nat) : Nat := if n < 10 then 48 + n else 87 + n
def digU (n : Nat) : UInt8 := UInt8.ofNat (digN n)
def hexB (b : UInt8) : List UInt8 := [digU (b.toNat / 16), digU (b.toNat % 16)]
def hexL (l : List UInt8) : List UInt8 := l.flatMap hexB
def hexS (l : List UInt8) : List UInt8 := if l = [] then [45] else hexL l
theorem hex_len (l : List UInt8) : (hexL l).length = 2 * l.length := by
  induction l with
  | nil => rfl
  | cons a t ih => simp only [hexL, List.flatMap_cons, List.length_append, hexB, List.length_cons, List.length_nil] at ih ⊢; omega
theorem hex_take {l : List UInt8} {j : Nat} (hj : j < l.length) : hexL (l.take (j + 1)) = hexL (l.take j) ++ hexB l[j] := by
  unfold hexL
  rw [List.take_succ_eq_append_getElem hj, List.flatMap_append]
  simp
theorem digit_any (n : Nat) (h : n < 16) (w : World) : Calls Tryd.prog 27 #[.int .u8 n] w (Ret w (.int .u8 (digN n))) := by
  unfold digN
  by_cases h10 : n < 10
  · have q : decide ((n : Int) < 10) = true := decide_eq_true (by omega)
    rw [if_pos h10]
    go_enter Tryd.func27, Tryd.ntmps27
    go_wp2_with fail
    go_ret
    exact Ret.mk (by rw [show ((48 + n : Nat) : Int) = 48 + (n : Int) by omega]; rfl) (by repeat (first | with_reducible exact Below.refl _ _ | (with_reducible refine Below.al ?_) | (with_reducible refine Below.drew ?_) | (with_reducible refine Below.set ?_ (by first | (simp; done) | omega | (simp; omega))) | (with_reducible refine Below.thru ?_ (by assumption)) | (with_reducible refine Below.chg ?_ (by assumption) (by first | (simp; done) | omega | (simp; omega)))))
  · have q : decide ((n : Int) < 10) = false := decide_eq_false (by omega)
    rw [if_neg h10]
    go_enter Tryd.func27, Tryd.ntmps27
    go_wp2_with fail
    go_ret
    exact Ret.mk (by rw [show ((87 + n : Nat) : Int) = 97 + (n : Int) - 10 by omega]; rfl) (by repeat (first | with_reducible exact Below.refl _ _ | (with_reducible refine Below.al ?_) | (with_reducible refine Below.drew ?_) | (with_reducible refine Below.set ?_ (by first | (simp; done) | omega | (simp; omega))) | (with_reducible refine Below.thru ?_ (by assumption)) | (with_reducible refine Below.chg ?_ (by assumption) (by first | (simp; done) | omega | (simp; omega)))))
def digitsS : ByteArray := ⟨#[48, 49, 50, 51, 52, 53, 54, 55, 56, 57, 97, 98, 99, 100, 101, 102]⟩
theorem dig_cut : ∀ n : _root_.Fin 16, digitsS.extract n.val (n.val + 1) = strL [digU n.val] := by decide +kernel
theorem byte_info : (Tryd.prog.info? 5).map (fun i => (i.zero, i.size, i.bytes)) = some (some (.int .u8 0), 1, 1) := by kernel_rfl
theorem make_row (w : World) (n : Nat) (hn : n ≤ 2000) : ∃ w1, (Instr.makeSlice 39 (.int .i64 0) (.int .i64 (n : Int))).run Tryd.prog w = .ok (.slice (some ⟨w.heap.size, 0, none⟩) 0 n) w1 ∧ St w none0 w1 [rowA 1 (.slice (some ⟨w.heap.size, 0, none⟩) 0 n) 0 []] := by
  obtain ⟨i0, hi, hz, hz1, hz2⟩ := info_parts byte_info
  have hr := run_make (P := Tryd.prog) w 39 5 i0 (.int .u8 0) Tryd.underlying39 hi hz .i64 .i64 0 n (by omega) (by omega) (by rw [hz2]; omega) (by omega)
  rw [hz1] at hr
  refine ⟨_, hr, ?_⟩
  have hm := made_one (.int .u8 0) n rfl
  have H1 := (St.zero w).alloc (madeCells (Value.cells (.int .u8 0)) (n * 1)).toList 5
  have H2 := H1.row_made (size := 1) (n := n) 0 rfl (by rw [hm]; simp) (by unfold maxLen; omega)
  have H3 := H2.prefix_ (i := 0) (k := 0) rfl (by omega)
  simp only [Nat.zero_mul, List.take_zero, Array.toArray_toList] at H3
  exact H3
theorem byteS (l : List UInt8) : List.map byteVal l = l.map fun b => Value.int .u8 b.toNat := rfl
set_option maxRecDepth 100000 in
theorem hex_any (s : ByteArray) (hs : s.size ≤ 1000) (w : World) : Calls Tryd.prog 20 #[.string s] w (Ret w (.string (strL (hexS s.data.toList)))) := by
  obtain ⟨l, hl⟩ : ∃ l, l = s.data.toList := ⟨_, rfl⟩
  have hsz : l.length = s.size := by rw [hl]; simp
  rw [← hl]
  unfold hexS
  by_cases h0 : s.size = 0
  · have hs : s = ⟨#[]⟩ := by
      cases s with | mk d => simp only [ByteArray.size] at h0; rw [Array.eq_empty_of_size_eq_zero h0]
    rw [if_pos (List.eq_nil_of_length_eq_zero (by omega))]
    subst hs
    clear hl hsz h0
    go_enter Tryd.func20, Tryd.ntmps20
    go_wp2_with fail
    go_ret
    exact Ret.mk rfl (by repeat (first | with_reducible exact Below.refl _ _ | (with_reducible refine Below.al ?_) | (with_reducible refine Below.drew ?_) | (with_reducible refine Below.set ?_ (by first | (simp; done) | omega | (simp; omega))) | (with_reducible refine Below.thru ?_ (by assumption)) | (with_reducible refine Below.chg ?_ (by assumption) (by first | (simp; done) | omega | (simp; omega)))))
  · have hpos : 0 < s.size := by omega
    have hne : s.toList.isEmpty = false := str_ne hpos
    rw [if_neg (by intro h; rw [h] at hsz; simp at hsz; omega)]
    obtain ⟨w1, hmk, H1⟩ := make_row w (2 * s.size) (by omega)
    rw [show ((2 * s.size : Nat) : Int) = 2 * (s.size : Int) by omega] at hmk
    replace hl := Lib.hid hl; replace hsz := Lib.hid hsz; replace H1 := Lib.hid H1
    go_enter Tryd.func20, Tryd.ntmps20
    go_wp2_with fail
    obtain ⟨i0, hi, hz, hz1, hz2⟩ := info_parts byte_info
    go_loopg [3, 13] s.size (fun g bv i wr => ∃ (j : Nat) (a : Option Addr) (c : Nat), j ≤ s.size ∧ Hid (g = s.size - j) ∧ i = .int .i64 j ∧ bv = .slice a (2 * j) c ∧ Hid (St w none0 wr [rowA 1 (.slice a (2 * j) c) (2 * j) ((hexL (l.take j)).map byteVal)]))
    case atStart => exact ⟨0, _, _, by omega, Lib.hid rfl, rfl, rfl, H1⟩
    case round =>
      clear H1 hmk
      obtain ⟨j, a, c, hj, hg, rfl, rfl, HL⟩ := hrel
      by_cases hlt : j < s.size
      · have hjl : j < l.length := by have := hsz.out; omega
        have hcj : s[j] = l[j] := at_list hl.out hlt hjl
        have hnx := hex_take hjl
        rw [← hcj] at hnx
        have q : decide ((j : Int) < (s.size : Int)) = true := decide_eq_true (by omega)
        have hc256 : (s[j]).toNat < 256 := UInt8.toNat_lt _
        obtain ⟨n, hn⟩ : ∃ n : Nat, n = (s[j]).toNat := ⟨_, rfl⟩
        have hcs : ((s[j]).toNat : Int) = (n : Int) := by rw [hn]
        unfold hexB at hnx
        rw [← hn] at hnx hc256
        have hp : (n : Int) / 16 = ((n / 16 : Nat) : Int) := by omega
        have hr : bits .and .u8 (n : Int) 15 = ((n % 16 : Nat) : Int) := by rw [u8_and15 (x := (n : Int)) (by omega) (by omega)]; omega
        have hr2 : (n : Int) % 16 = ((n % 16 : Nat) : Int) := by omega
        have P1 := fun w => digit_any (n / 16) (by omega) w
        have P2 := fun w => digit_any (n % 16) (by omega) w
        have hd1 : digN (n / 16) < 256 := by unfold digN; split <;> omega
        have hd2 : digN (n % 16) < 256 := by unfold digN; split <;> omega
        have hv : [byteVal (digU (n / 16)), byteVal (digU (n % 16))] = [Value.int .u8 (digN (n / 16) : Nat), .int .u8 (digN (n % 16) : Nat)] := by
          unfold byteVal digU
          rw [UInt8.toNat_ofNat', UInt8.toNat_ofNat', Nat.mod_eq_of_lt hd1, Nat.mod_eq_of_lt hd2]
        have hl1 : (hexL (l.take j)).length = 2 * j := by rw [hex_len, List.length_take]; omega
        generalize n / 16 = p at *
        generalize n % 16 = r at *
        generalize digN p = d1 at *
        generalize digN r = d2 at *
        have hbw := HL.out.below
        clear hcj
        replace hnx := Lib.hid hnx; replace hbw := Lib.hid hbw; replace hn := Lib.hid hn; replace hp := Lib.hid hp; replace hr := Lib.hid hr; replace hr2 := Lib.hid hr2; replace P1 := Lib.hid P1; replace P2 := Lib.hid P2; replace hv := Lib.hid hv
        go_wp2_with fail
        refine wp_region_made (w.heap.size) (w) [0, 1, 2, 3, 4, 6, 7, 8, 9] [true, true, true, true, true, false, true, true, true, true, false, false, false, false] 5 #[true, true, true, true, true, false, true, true, true, true, false, false, false, false] (by kernel_rfl) (hbw.out) rfl (by kernel_rfl) (by kernel_rfl) rfl (by kernel_rfl) (by kernel_rfl) (by intro c a a' w e h; obtain ⟨t, d⟩ := a; obtain ⟨t', d'⟩ := a'; obtain rfl : d = d' := e; exact h) ?_
        intro hs
        simp only [pickB]
        repeat (go_big_quiet_step (fail))
        refine wpQuiet_nil ?_
        clear hs
        simp only [hcs, hp.out, hr.out, hr2.out]
        have H1 := HL.out.drew
        clear hcs
        refine held_one (i := 5) (by kernel_rfl) fun K hK => ?_
        simp only [List.drop_succ_cons, List.drop_zero, List.take_succ_cons, List.take_zero]
        go_wp2_with fail
        refine Calls.mono (P1.out _) ?_
        rintro e w2 ⟨rfl, hb2⟩
        have H2 := H1.thru hb2
        clear H1
        go_wp2_with fail
        refine hK _ _ H2.below ?_
        clear hK K
        refine held_one (i := 10) (by kernel_rfl) fun K hK => ?_
        simp only [List.drop_succ_cons, List.drop_zero, List.take_succ_cons, List.take_zero]
        go_wp2_with fail
        refine Calls.mono (P2.out _) ?_
        rintro e w3 ⟨rfl, hb3⟩
        have H3 := H2.thru hb3
        clear H2 P1 P2
        go_wp2_with fail
        refine hK _ _ H3.below ?_
        clear hK K
        refine held_one (i := 11) (by kernel_rfl) fun K hK => ?_
        simp only [List.drop_succ_cons, List.drop_zero, List.take_succ_cons, List.take_zero]
        have H4 := H3.alloc [.int .u8 d1, .int .u8 d2] 5
        have hone : Rd (w3.alloc (.cells #[.int .u8 d1, .int .u8 d2] 5)) (some ⟨w3.heap.size, 0, none⟩) [.int .u8 d1, .int .u8 d2] := (St.box 0 H4 rfl).rd
        go_wp2_with fail
        refine hK _ _ H4.below ?_
        clear hK K
        refine held_one (i := 12) (by kernel_rfl) fun K hK => ?_
        simp only [List.drop_succ_cons, List.drop_zero, List.take_succ_cons, List.take_zero]
        go_wp2_with (at_builtin; (refine wpList_appRd rfl (.tmp 16) (.tmp 27) _ rfl 5 i0 _ 1 1 Tryd.underlying39 hi hz hz1 hz2 rfl (by omega) 1 _ (2 * j) _ rfl H4 rfl _ 2 2 [.int .u8 d1, .int .u8 d2] rfl rfl hone (by simp) (by simp [Value.oneCell']) (by omega) (by omega) ?_; intro wv6 w7 H7; obtain ⟨ga7, cap7, rfl, _⟩ := St.slice (by omega) 0 H7 rfl; replace H7 := Lib.hid H7))
        refine hK _ _ H7.out.below ?_
        clear hK K
        refine held_one (i := 13) (by kernel_rfl) fun K hK => ?_
        simp only [List.drop_succ_cons, List.drop_zero, List.take_succ_cons, List.take_zero]
        go_wp2_with fail
        refine hK _ _ H7.out.below ?_
        clear hK K
        refine held_done (by kernel_rfl) ?_
        go_wp2_with fail
        go_roundg (s.size - (j + 1))
        case measure => have := hg.out; omega
        case rel =>
          refine ⟨j + 1, ga7, cap7, by omega, Lib.hid rfl, by go_num, rfl, Lib.hid ?_⟩
          have H8 := H7.out.drops 1
          rw [← hv.out] at H8
          rw [hnx.out, List.map_append]
          exact H8
      · obtain rfl : j = s.size := by omega
        have q : decide ((s.size : Int) < (s.size : Int)) = false := decide_eq_false (by omega)
        have hall : l.take s.size = l := List.take_of_length_le (by have := hsz.out; omega)
        rw [hall] at HL
        have hl1 : (hexL l).length = 2 * s.size := by rw [hex_len]; have := hsz.out; omega
        have hstr := run_str (P := Tryd.prog) 0 _ _ _ Tryd.underlying39 Tryd.underlying5 Tryd.underlying9 _ (hexL l) (2 * s.size) hl1.symm (HL.out.row 0 rfl)
        have hres : strL (hexL l) = ⟨(hexL l).toArray⟩ := rfl
        rw [← hres] at hstr
        clear hres hall
        replace hl1 := Lib.hid hl1
        go_wp2_with fail
        go_ret
        exact Ret.mk rfl HL.out.below
theorem strL_app (a b : List UInt8) : strL a ++ strL b = strL (a ++ b) := by
  apply ByteArray.ext
  simp [strL]
set_option maxRecDepth 100000 in
theorem rhex_any (s : ByteArray) (hs : s.size ≤ 1000) (w : World) : Calls Tryd.prog 21 #[.string s] w (Ret w (.string (strL (hexS s.data.toList)))) := by
  obtain ⟨l, hl⟩ : ∃ l, l = s.data.toList := ⟨_, rfl⟩
  have hsz : l.length = s.size := by rw [hl]; simp
  rw [← hl]
  obtain ⟨v, hv⟩ : ∃ v, v = strL (hexS l) := ⟨_, rfl⟩
  rw [← hv]
  replace hl := Lib.hid hl; replace hsz := Lib.hid hsz; replace hv := Lib.hid hv
  go_enter Tryd.func21, Tryd.ntmps21
  go_wp2_with fail
  go_loopg [3, 4] s.size (fun g tv i wr => ∃ (j : Nat), j ≤ s.size ∧ Hid (g = s.size - j) ∧ i = .int .i64 j ∧ tv = .string (strL (hexL (l.take j))) ∧ Below w.heap.size w wr)
  case atStart => exact ⟨0, by omega, Lib.hid rfl, rfl, rfl, (by repeat (first | with_reducible exact Below.refl _ _ | (with_reducible refine Below.al ?_) | (with_reducible refine Below.drew ?_) | (with_reducible refine Below.set ?_ (by first | (simp; done) | omega | (simp; omega))) | (with_reducible refine Below.thru ?_ (by assumption)) | (with_reducible refine Below.chg ?_ (by assumption) (by first | (simp; done) | omega | (simp; omega)))))⟩
  case round =>
    obtain ⟨j, hj, hg, rfl, rfl, hbw⟩ := hrel
    by_cases hlt : j < s.size
    · have hjl : j < l.length := by have := hsz.out; omega
      have hcj : s[j] = l[j] := at_list hl.out hlt hjl
      have hnx := hex_take hjl
      rw [← hcj] at hnx
      have q : decide ((j : Int) < (s.size : Int)) = true := decide_eq_true (by omega)
      have hc256 : (s[j]).toNat < 256 := UInt8.toNat_lt _
      obtain ⟨n, hn⟩ : ∃ n : Nat, n = (s[j]).toNat := ⟨_, rfl⟩
      have hcs : ((s[j]).toNat : Int) = (n : Int) := by rw [hn]
      unfold hexB at hnx
      rw [← hn] at hnx hc256
      have hl1 : (hexL (l.take j)).length ≤ 2000 := by rw [hex_len, List.length_take]; omega
      have hp1 : n / 16 < 16 := by omega
      have hr1 : n % 16 < 16 := by omega
      have hc1 := dig_cut ⟨n / 16, hp1⟩
      have hc2 := dig_cut ⟨n % 16, hr1⟩
      simp only at hc1 hc2
      have hp : (n : Int) / 16 = ((n / 16 : Nat) : Int) := by omega
      have hr : (n : Int) % 16 = ((n % 16 : Nat) : Int) := by omega
      have hpt : (n : Int).tdiv 16 = ((n / 16 : Nat) : Int) := by rw [Int.tdiv_eq_ediv_of_nonneg (by omega)]; omega
      have hrt : (n : Int).tmod 16 = ((n % 16 : Nat) : Int) := by rw [Int.tmod_eq_emod_of_nonneg (by omega)]; omega
      generalize n / 16 = p at *
      generalize n % 16 = r at *
      obtain ⟨x1, hx1⟩ : ∃ x, x = digU p := ⟨_, rfl⟩
      obtain ⟨x2, hx2⟩ : ∃ x, x = digU r := ⟨_, rfl⟩
      rw [← hx1] at hc1 hnx
      rw [← hx2] at hc2 hnx
      unfold digitsS at hc1 hc2
      have hs1 : (strL [x1]).size = 1 := rfl
      have hs2 : (strL [x2]).size = 1 := rfl
      have hs0 : (strL (hexL (l.take j))).size ≤ 2000 := by rw [strL_size]; exact hl1
      have hs3 : (strL (hexL (l.take j)) ++ strL [x1]).size ≤ 2001 := by rw [ByteArray.size_append]; omega
      clear hcj
      replace hnx := Lib.hid hnx; replace hn := Lib.hid hn; replace hx1 := Lib.hid hx1; replace hx2 := Lib.hid hx2; replace hl1 := Lib.hid hl1
      go_wp2_with fail
      refine wp_region_near (by kernel_rfl) (by kernel_rfl) ?_
      intro hs
      repeat (go_big_quiet_step (fail))
      refine wpQuiet_nil ?_
      clear hs
      intro w2 hb2
      go_wp2_with fail
      go_roundg (s.size - (j + 1))
      case measure => have := hg.out; omega
      case rel => exact ⟨j + 1, by omega, Lib.hid rfl, by go_num, by rw [strL_app, strL_app, hnx.out, List.append_assoc]; rfl, (by repeat (first | with_reducible exact Below.refl _ _ | (with_reducible refine Below.al ?_) | (with_reducible refine Below.drew ?_) | (with_reducible refine Below.set ?_ (by first | (simp; done) | omega | (simp; omega))) | (with_reducible refine Below.thru ?_ (by assumption)) | (with_reducible refine Below.chg ?_ (by assumption) (by first | (simp; done) | omega | (simp; omega)))))⟩
    · obtain rfl : j = s.size := by omega
      have q : decide ((s.size : Int) < (s.size : Int)) = false := decide_eq_false (by omega)
      have hall : l.take s.size = l := List.take_of_length_le (by have := hsz.out; omega)
      simp only [hall]
      clear hall
      have hv2 := hv.out
      unfold hexS at hv2
      by_cases h0 : s.size = 0
      · have hs0 : s = ⟨#[]⟩ := by
          cases s with | mk d => simp only [ByteArray.size] at h0; rw [Array.eq_empty_of_size_eq_zero h0]
        rw [if_pos (List.eq_nil_of_length_eq_zero (by have := hsz.out; omega))] at hv2
        clear hv
        subst hv2
        subst hs0
        go_wp2_with fail
        go_ret
        exact Ret.mk rfl (by repeat (first | with_reducible exact Below.refl _ _ | (with_reducible refine Below.al ?_) | (with_reducible refine Below.drew ?_) | (with_reducible refine Below.set ?_ (by first | (simp; done) | omega | (simp; omega))) | (with_reducible refine Below.thru ?_ (by assumption)) | (with_reducible refine Below.chg ?_ (by assumption) (by first | (simp; done) | omega | (simp; omega)))))
      · have hne : s.toList.isEmpty = false := str_ne (by omega)
        rw [if_neg (by intro h; have := hsz.out; rw [h] at this; simp at this; omega)] at hv2
        clear hv
        replace hv2 := Lib.hid hv2
        go_wp2_with fail
        go_ret
        exact Ret.mk (by rw [hv2.out]; rfl) (by repeat (first | with_reducible exact Below.refl _ _ | (with_reducible refine Below.al ?_) | (with_reducible refine Below.drew ?_) | (with_reducible refine Below.set ?_ (by first | (simp; done) | omega | (simp; omega))) | (with_reducible refine Below.thru ?_ (by assumption)) | (with_reducible refine Below.chg ?_ (by assumption) (by first | (simp; done) | omega | (simp; omega)))))
end Go.Proofs.YtkphbgicffhceaaDoor.Words
