/- The walk of the statement WordsBack. -/
import Derived.Test.YtkphbgicffhceaaDoorWordBackPlain
import Derived.Test.YtkphbgicffhceaaDoorWordsFields
namespace Go.Proofs.YtkphbgicffhceaaDoor.Words
set_option linter.unusedSimpArgs false
set_option linter.unusedVariables false
open Go Go.RowKit Go.Proofs.YtkphbgicffhceaaDoor
attribute [local irreducible] Calls

def goodW (x : ByteArray) : Bool := decide (fieldsL x.data.toList = [x.data.toList])
theorem filter_take {L : List ByteArray} {j : Nat} (hj : j < L.length) : (L.take (j + 1)).filter goodW = (L.take j).filter goodW ++ (if goodW L[j] = true then [L[j]] else []) := by
  rw [List.take_succ_eq_append_getElem hj, List.filter_append]
  by_cases h : goodW L[j] = true <;> simp [h]
theorem strL_ne {x : List UInt8} {y : ByteArray} (h : x ≠ y.data.toList) : strL x ≠ y := fun e => h (by rw [← e]; rfl)
set_option maxRecDepth 100000 in
set_option maxHeartbeats 1000000 in
theorem back_walk (a0 : Int) (w0 : (Lit.int .u64 a0).wf = true) (a1 : ByteArray) (w1' : a1.size ≤ maxLen) (a2 : Bool) (a3 : Option Addr) (len3 cap3 : Nat) (w : World) (h3 : Fits w (.slice 1 .str) [.slice a3 len3 cap3]) (htab : Lib.TabIs Tryd.prog w "internal/strconv.uint64pow10" .u64 Lib.pow10Tab) :
    Calls Tryd.prog 6 #[.int .u64 a0, .string a1, .bool a2, .slice a3 len3 cap3] w (Ret w (.bool true)) := by
  obtain ⟨hmax, hcap, hnone, L, hL, hsz, hR⟩ := strs_in h3
  have ha0 : 0 ≤ a0 := (bounds_u64 w0).1
  obtain ⟨U, rfl⟩ : ∃ U : Nat, a0 = (U : Int) := ⟨a0.toNat, by omega⟩
  obtain ⟨u, hu⟩ : ∃ u, u = U % 1000000000000000 := ⟨_, rfl⟩
  have hu15 : u < 1000000000000000 := by rw [hu]; exact Nat.mod_lt _ (by omega)
  have hmod : (U : Int).tmod 1000000000000000 = (u : Int) := by rw [Int.tmod_eq_emod_of_nonneg (by omega), hu]; rfl
  have hmod2 : (U : Int) % 1000000000000000 = (u : Int) := by rw [hu]; rfl
  unfold maxLen at w1' hmax
  clear h3 w0 ha0
  replace hL := Lib.hid hL; replace hsz := Lib.hid hsz; replace hR := Lib.hid hR; replace hnone := Lib.hid hnone; replace htab := Lib.hid htab; replace hu := Lib.hid hu
  go_enter Tryd.func6, Tryd.ntmps6
  go_wp2_with fail
  refine Calls.mono (works_law _) ?_
  rintro e w1 ⟨rfl, hb1⟩
  have z1 := Below.size hb1; try simp only [World.size_alloc, World.size_setCell, World.size_drew] at z1
  by_cases h5 : 1000 < a1.size
  · have q : decide ((1000 : Int) < (a1.size : Int)) = true := decide_eq_true (by omega)
    go_wp2_with fail
    go_ret
    exact Ret.mk rfl (by repeat (first | with_reducible exact Below.refl _ _ | (with_reducible refine Below.al ?_) | (with_reducible refine Below.drew ?_) | (with_reducible refine Below.set ?_ (by first | (simp; done) | omega | (simp; omega))) | (with_reducible refine Below.thru ?_ (by assumption)) | (with_reducible refine Below.chg ?_ (by assumption) (by first | (simp; done) | omega | (simp; omega)))))
  · have q : decide ((1000 : Int) < (a1.size : Int)) = false := decide_eq_false (by omega)
    by_cases h2 : 100 < len3
    · have q2 : decide ((100 : Int) < (len3 : Int)) = true := decide_eq_true (by omega)
      go_wp2_with fail
      go_ret
      exact Ret.mk rfl (by repeat (first | with_reducible exact Below.refl _ _ | (with_reducible refine Below.al ?_) | (with_reducible refine Below.drew ?_) | (with_reducible refine Below.set ?_ (by first | (simp; done) | omega | (simp; omega))) | (with_reducible refine Below.thru ?_ (by assumption)) | (with_reducible refine Below.chg ?_ (by assumption) (by first | (simp; done) | omega | (simp; omega)))))
    · have q2 : decide ((100 : Int) < (len3 : Int)) = false := decide_eq_false (by omega)
      have P1 := of_any (u : Int) ⟨by omega, by omega⟩ w1 (tab_below htab.out hb1)
      have P2 : ∀ w, Calls Tryd.prog 8 #[.string (strL (Lib.itoa (u : Int)))] w (Ret w (.tuple #[.int .i64 (u : Int), .bool true])) := fun w => by
        have := num_any (strL (Lib.itoa (u : Int))) w
        rw [show (strL (Lib.itoa (u : Int))).data.toList = Lib.itoa (u : Int) from rfl, num_back hu15] at this
        exact this
      have P3 := fun w => hex_any a1 (by omega) w
      have P4 : ∀ w, Calls Tryd.prog 17 #[.string (strL (hexS a1.data.toList))] w (Ret w (.tuple #[.string a1, .bool true])) := fun w => by
        have hl : a1.data.toList.length = a1.size := by simp
        have := bytes_any (strL (hexS a1.data.toList)) (by rw [strL_size]; unfold hexS; split; simp; rw [hex_len, hl]; omega) w
        rw [show (strL (hexS a1.data.toList)).data.toList = hexS a1.data.toList from rfl, bytes_back] at this
        exact this
      generalize strL (Lib.itoa (u : Int)) = s1 at *
      generalize strL (hexS a1.data.toList) = s2 at *
      have kx : (a1.toList == a1.toList) = true := by simp
      have kx2 : (a1.toList != a1.toList) = false := by simp
      have ku : ((u : Int) != (u : Int)) = false := by simp
      clear h5
      replace P1 := Lib.hid P1; replace P2 := Lib.hid P2; replace P3 := Lib.hid P3; replace P4 := Lib.hid P4
      go_wp2_with fail
      refine Calls.mono (P1.out) ?_
      rintro e w2 ⟨rfl, hb2⟩
      have z2 := Below.size hb2; try simp only [World.size_alloc, World.size_setCell, World.size_drew] at z2
      go_wp2_with fail
      refine Calls.mono (P2.out _) ?_
      rintro e w3 ⟨rfl, hb3⟩
      have z3 := Below.size hb3; try simp only [World.size_alloc, World.size_setCell, World.size_drew] at z3
      go_wp2_with fail
      refine Calls.mono (P3.out _) ?_
      rintro e w4 ⟨rfl, hb4⟩
      have z4 := Below.size hb4; try simp only [World.size_alloc, World.size_setCell, World.size_drew] at z4
      go_wp2_with fail
      refine Calls.mono (P4.out _) ?_
      rintro e w5 ⟨rfl, hb5⟩
      have z5 := Below.size hb5; try simp only [World.size_alloc, World.size_setCell, World.size_drew] at z5
      clear P1 P2 P3 P4
      cases a2 with
      | false =>
        have P5 := fun w => name_any 0 w
        rw [show strL (nameL 0) = ⟨#[97]⟩ from rfl] at P5
        have P6 : ∀ w, Calls Tryd.prog 19 #[.string ⟨#[97]⟩] w (Ret w (.tuple #[.int .i64 0, .bool true])) := fun w => side_any ⟨#[97]⟩ w
        replace P5 := Lib.hid P5; replace P6 := Lib.hid P6
        go_wp2_with fail
        refine Calls.mono (P5.out _) ?_
        rintro e w6 ⟨rfl, hb6⟩
        have z6 := Below.size hb6; try simp only [World.size_alloc, World.size_setCell, World.size_drew] at z6
        go_wp2_with fail
        refine Calls.mono (P6.out _) ?_
        rintro e w7 ⟨rfl, hb7⟩
        have z7 := Below.size hb7; try simp only [World.size_alloc, World.size_setCell, World.size_drew] at z7
        clear P5 P6
        have hbw7 : Below w.heap.size w w7 := (by repeat (first | with_reducible exact Below.refl _ _ | (with_reducible refine Below.al ?_) | (with_reducible refine Below.drew ?_) | (with_reducible refine Below.set ?_ (by first | (simp; done) | omega | (simp; omega))) | (with_reducible refine Below.thru ?_ (by assumption)) | (with_reducible refine Below.chg ?_ (by assumption) (by first | (simp; done) | omega | (simp; omega)))))
        have H7 := Lib.hid (((St.zero w).thru hbw7).row_nil (size := 1))
        clear htab hmod hmod2 hbw7
        go_wp2_with fail
        obtain ⟨i0, hi, hz, hz1, hz2⟩ := info_parts str_info
        go_loopg [17, 18] len3 (fun g pv i wr => ∃ (j : Nat) (pa : Option Addr) (pc : Nat) (P : List ByteArray), j ≤ len3 ∧ Hid (g = len3 - j) ∧ i = .int .i64 j ∧ pv = .slice pa P.length pc ∧ Hid (P = (L.take j).filter goodW) ∧ Hid (∀ k (hk : k < L.length), k < j → L[k].size ≤ 100) ∧ Hid (St w none0 wr [rowA 1 (.slice pa P.length pc) P.length (strs P)]))
        case atStart => exact ⟨0, none, 0, [], by omega, Lib.hid rfl, rfl, rfl, Lib.hid rfl, Lib.hid (fun k hk h => by omega), H7⟩
        case round =>
          clear H7
          obtain ⟨j, pa, pc, P, hj, hg, rfl, rfl, hP, hno, HL⟩ := hrel
          have hPl : P.length ≤ j := by
            rw [hP.out]
            have : ((L.take j).filter goodW).length ≤ (L.take j).length := List.length_filter_le ..
            rw [List.length_take] at this
            omega
          by_cases hlt : j < len3
          · have hjl : j < L.length := by have := hL.out; omega
            obtain ⟨b, off, rfl, hb, e0⟩ := strs_at (hR.out.below HL.out.below) hjl
            have hs := hsz.out L[j] (List.getElem_mem hjl)
            unfold maxLen at hs
            have hft := filter_take hjl
            rw [← hP.out] at hft
            have hnx : L[j].size ≤ 100 → ∀ k (hk : k < L.length), k < j + 1 → L[k].size ≤ 100 := fun h k hk h1 => by
              by_cases e : k = j
              · subst e; exact h
              · exact hno.out k hk (by omega)
            have qj : decide ((j : Int) < (len3 : Int)) = true := decide_eq_true (by omega)
            clear hno hP
            generalize L[j] = x at *
            by_cases hbig : 100 < x.size
            · have q3 : decide ((100 : Int) < (x.size : Int)) = true := decide_eq_true (by omega)
              clear hnx hft
              go_wp2_with fail
              go_ret
              exact Ret.mk rfl HL.out.below
            · have q3 : decide ((100 : Int) < (x.size : Int)) = false := decide_eq_false (by omega)
              replace hnx := Lib.hid (hnx (by omega))
              have P8 := fun w => rfields_any x (by omega) w
              unfold goodW at hft
              obtain ⟨F, hF⟩ : ∃ F, F = fieldsL x.data.toList := ⟨_, rfl⟩
              rw [← hF] at P8 hft
              replace hF := Lib.hid hF
              replace P8 := Lib.hid P8; replace hft := Lib.hid hft
              go_wp2_with fail
              refine Calls.mono (P8.out _) ?_
              rintro e w8 ⟨v8, rfl, H8⟩
              obtain ⟨fa, fc, rfl, _⟩ := St.slice (by omega) 0 H8 rfl
              have R8 : Rd w8 fa (strs (F.map strL)) := St.rd (by omega) 0 H8 rfl
              have hb8 := H8.below
              have H9 := HL.out.thru hb8
              have hbl : b < w8.heap.size := by have := hb8.size; omega
              have e0' := (Below.blk hb8 hb).1
              have e1 : w8.cell? ⟨b, off + j, none⟩ = some (.string x) := by rw [e0' (off + j)]; exact e0
              clear P8 HL H8 e0 e0'
              by_cases hone : F.length = 1
              · obtain ⟨y, rfl⟩ := List.length_eq_one_iff.1 hone
                obtain ⟨b2, off2, rfl, hb2', e2⟩ := strs_at R8 (j := 0) (by simp)
                simp only [List.map_cons, List.map_nil, List.getElem_cons_zero, Nat.add_zero] at e2
                by_cases hy : y = x.data.toList
                · have hsx : strL y = x := by rw [hy]; rfl
                  rw [hsx] at e2
                  have hft2 := hft.out
                  rw [hy, if_pos (decide_eq_true rfl)] at hft2
                  have kx8 : (x.toList == x.toList) = true := by simp
                  clear hft R8 hy hsx hone
                  replace H9 := Lib.hid H9; replace hft2 := Lib.hid hft2
                  go_wp2_with fail
                  refine wp_region_near (by kernel_rfl) (by kernel_rfl) ?_
                  intro hs
                  repeat (go_big_quiet_step (fail))
                  refine wpQuiet_nil ?_
                  clear hs
                  intro w9 hb9
                  have H10 := H9.out.thru hb9
                  have e3 : w9.cell? ⟨b, off + j, none⟩ = some (.string x) := by rw [(Below.blk hb9 hbl).1 (off + j)]; exact e1
                  have hbl9 : b < w9.heap.size := by have := hb9.size; omega
                  clear H9 e1 e2
                  replace H10 := Lib.hid H10
                  go_wp2_with (at_builtin; (refine wpList_appS rfl (.tmp 107) (.tmp 112) _ rfl 9 i0 _ 1 16 Tryd.underlying27 hi hz hz1 hz2 rfl (by omega) 0 _ P.length (strs P) rfl H10.out rfl 1 1 [.string x] rfl rfl (by simp [Value.oneCell']) (by omega) (by omega) ?_; intro v5 w5 H5; obtain ⟨l5, c5, rfl, _⟩ := St.slice (by omega) 0 H5 rfl; replace H5 := Lib.hid H5))
                  go_roundg (len3 - (j + 1))
                  case measure => have := hg.out; omega
                  case rel =>
                    refine ⟨j + 1, l5, c5, P ++ [x], by omega, Lib.hid rfl, by go_num, by rw [List.length_append]; rfl, Lib.hid hft2.out.symm, hnx, Lib.hid ?_⟩
                    rw [List.length_append, show strs (P ++ [x]) = strs P ++ [Value.string x] by simp [strs]]
                    exact H5.out.drops 1
                · have hne := strL_ne (x := y) (y := x) hy
                  have kn : decide (strL y = x) = false := decide_eq_false hne
                  have kn2 : ((strL y).toList == x.toList) = false := by rw [ByteArray.toList_eq, ByteArray.toList_eq]; exact beq_eq_false_iff_ne.2 hy
                  have hft2 := hft.out
                  rw [if_neg (by simpa using hy), List.append_nil] at hft2
                  clear hft R8 hy hone hne
                  replace H9 := Lib.hid H9; replace hft2 := Lib.hid hft2
                  go_wp2_with fail
                  refine wp_region_near (by kernel_rfl) (by kernel_rfl) ?_
                  intro hs
                  repeat (go_big_quiet_step (fail))
                  refine wpQuiet_nil ?_
                  clear hs
                  intro w9 hb9
                  have H10 := Lib.hid (H9.out.thru hb9)
                  go_wp2_with fail
                  go_roundg (len3 - (j + 1))
                  case measure => have := hg.out; omega
                  case rel => exact ⟨j + 1, pa, pc, P, by omega, Lib.hid rfl, by go_num, rfl, Lib.hid hft2.out.symm, hnx, H10⟩
              · have kn : ((F.length : Int) == 1) = false := by rw [beq_eq_false_iff_ne]; omega
                have kn2 : ¬ F.length = 1 := hone
                have hft2 := hft.out
                rw [if_neg (by simp only [decide_eq_true_eq]; intro h; exact hone (by rw [h]; rfl)), List.append_nil] at hft2
                clear hft R8 hone
                replace H9 := Lib.hid H9; replace hft2 := Lib.hid hft2
                go_wp2_with fail
                refine wp_region_near (by kernel_rfl) (by kernel_rfl) ?_
                intro hs
                repeat (go_big_quiet_step (fail))
                refine wpQuiet_nil ?_
                clear hs
                intro w9 hb9
                have H10 := Lib.hid (H9.out.thru hb9)
                go_wp2_with fail
                go_roundg (len3 - (j + 1))
                case measure => have := hg.out; omega
                case rel => exact ⟨j + 1, pa, pc, P, by omega, Lib.hid rfl, by go_num, rfl, Lib.hid hft2.out.symm, hnx, H10⟩
          · obtain rfl : j = len3 := by omega
            have qj : decide ((j : Int) < (j : Int)) = false := decide_eq_false (by omega)
            have hgood : ∀ y ∈ P, fieldsL y.data.toList = [y.data.toList] := by
              intro y hy
              rw [hP.out] at hy
              have := (List.mem_filter.1 hy).2
              unfold goodW at this
              simpa using this
            have hsmall : ∀ y ∈ P, y.size ≤ 200 := by
              intro y hy
              rw [hP.out] at hy
              have hm := List.mem_of_mem_take (List.mem_filter.1 hy).1
              obtain ⟨k, hk, rfl⟩ := List.getElem_of_mem hm
              have := hno.out k hk (by have := hL.out; omega)
              omega
            have hlen := join_len _ P rfl hsmall
            have hback := fields_back P hgood
            have hone : ∀ u ∈ strs P, u.oneCell' = true := by
              intro u hu
              obtain ⟨x, _, rfl⟩ := List.mem_map.1 hu
              rfl
            have E2 := (HL.out.alloc [] 9).row_empty (size := 1) 0 rfl
            obtain ⟨_, _, epv, hpc, hpm, hpn⟩ := St.slice (by omega) 0 HL.out rfl
            injection epv with ep1 ep2 ep3
            subst ep1 ep3
            have hr2 := St.rd (by omega) 1 E2 rfl
            clear hgood hsmall hno hP HL
            replace hpn := Lib.hid hpn
            replace E2 := Lib.hid E2; replace hr2 := Lib.hid hr2; replace hone := Lib.hid hone; replace hlen := Lib.hid hlen; replace hback := Lib.hid hback
            go_wp2_with (at_builtin; (refine wpList_appRd rfl (.tmp 114) (.tmp 115) _ rfl 9 i0 _ 1 16 Tryd.underlying27 hi hz hz1 hz2 rfl (by omega) 0 _ 0 [] rfl E2.out rfl pa P.length pc (strs P) rfl (by unfold strs; rw [List.length_map]; omega) hr2.out hpn.out.1 hone.out (by omega) (by omega) ?_; intro wv5 w8 H5; (try simp only [Nat.zero_add, List.nil_append] at H5); obtain ⟨ja, jc, rfl, hjc, _⟩ := St.slice (by omega) 0 H5 rfl; replace H5 := Lib.hid H5))
            have R5 := St.rd (by omega) 0 H5.out rfl
            have P4 := join_any P P.length jc rfl (by omega) hjc ja w8 R5 (by have := hlen.out; omega)
            clear E2 hr2 R5
            replace P4 := Lib.hid P4
            refine Calls.mono P4.out ?_
            rintro e w9 ⟨rfl, hb9⟩
            have H9 := Lib.hid (H5.out.thru hb9)
            have P5 : Calls Tryd.prog 13 #[.string (strL (joinL P))] w9 (fun e w' => ∃ v, e = .returned v ∧ St w9 none0 w' [rowA 1 v P.length (strs P)]) := by
              have := fields_any (strL (joinL P)) (by rw [strL_size]; have := hlen.out; omega) w9
              rw [show (strL (joinL P)).data.toList = joinL P from rfl, hback.out, List.length_map] at this
              have e2 : strsL (P.map (·.data.toList)) = strs P := by
                unfold strsL
                rw [List.map_map]
                congr 1
                conv => rhs; rw [← List.map_id P]
                rfl
              rw [e2] at this
              exact this
            clear P4 H5
            replace P5 := Lib.hid P5
            go_wp2_with fail
            refine Calls.mono P5.out ?_
            rintro e w10 ⟨v10, rfl, H10⟩
            obtain ⟨fa, fc, rfl, _⟩ := St.slice (by omega) 0 H10 rfl
            have R10 := St.rd (by omega) 0 H10 rfl
            have H11 := H9.out.thru H10.below
            have R11 : Rd w10 pa (strs P) := St.rd (by omega) 1 H11 rfl
            have P6 := strings_any P P.length fc pc rfl (by omega) fa pa w10 R10 R11
            clear P5 H9 H10 R10 R11
            replace P6 := Lib.hid P6; replace H11 := Lib.hid H11
            go_wp2_with fail
            refine Calls.mono P6.out ?_
            rintro e w11 ⟨rfl, hb11⟩
            have H12 := Lib.hid (H11.out.thru hb11)
            clear P6 H11
            go_wp2_with fail
            go_ret
            exact Ret.mk rfl H12.out.below
      | true =>
        have P5 := fun w => name_any 1 w
        rw [show strL (nameL 1) = ⟨#[98]⟩ from rfl] at P5
        have P6 : ∀ w, Calls Tryd.prog 19 #[.string ⟨#[98]⟩] w (Ret w (.tuple #[.int .i64 1, .bool true])) := fun w => side_any ⟨#[98]⟩ w
        replace P5 := Lib.hid P5; replace P6 := Lib.hid P6
        go_wp2_with fail
        refine Calls.mono (P5.out _) ?_
        rintro e w6 ⟨rfl, hb6⟩
        have z6 := Below.size hb6; try simp only [World.size_alloc, World.size_setCell, World.size_drew] at z6
        go_wp2_with fail
        refine Calls.mono (P6.out _) ?_
        rintro e w7 ⟨rfl, hb7⟩
        have z7 := Below.size hb7; try simp only [World.size_alloc, World.size_setCell, World.size_drew] at z7
        clear P5 P6
        have hbw7 : Below w.heap.size w w7 := (by repeat (first | with_reducible exact Below.refl _ _ | (with_reducible refine Below.al ?_) | (with_reducible refine Below.drew ?_) | (with_reducible refine Below.set ?_ (by first | (simp; done) | omega | (simp; omega))) | (with_reducible refine Below.thru ?_ (by assumption)) | (with_reducible refine Below.chg ?_ (by assumption) (by first | (simp; done) | omega | (simp; omega)))))
        have H7 := Lib.hid (((St.zero w).thru hbw7).row_nil (size := 1))
        clear htab hmod hmod2 hbw7
        go_wp2_with fail
        obtain ⟨i0, hi, hz, hz1, hz2⟩ := info_parts str_info
        go_loopg [17, 18] len3 (fun g pv i wr => ∃ (j : Nat) (pa : Option Addr) (pc : Nat) (P : List ByteArray), j ≤ len3 ∧ Hid (g = len3 - j) ∧ i = .int .i64 j ∧ pv = .slice pa P.length pc ∧ Hid (P = (L.take j).filter goodW) ∧ Hid (∀ k (hk : k < L.length), k < j → L[k].size ≤ 100) ∧ Hid (St w none0 wr [rowA 1 (.slice pa P.length pc) P.length (strs P)]))
        case atStart => exact ⟨0, none, 0, [], by omega, Lib.hid rfl, rfl, rfl, Lib.hid rfl, Lib.hid (fun k hk h => by omega), H7⟩
        case round =>
          clear H7
          obtain ⟨j, pa, pc, P, hj, hg, rfl, rfl, hP, hno, HL⟩ := hrel
          have hPl : P.length ≤ j := by
            rw [hP.out]
            have : ((L.take j).filter goodW).length ≤ (L.take j).length := List.length_filter_le ..
            rw [List.length_take] at this
            omega
          by_cases hlt : j < len3
          · have hjl : j < L.length := by have := hL.out; omega
            obtain ⟨b, off, rfl, hb, e0⟩ := strs_at (hR.out.below HL.out.below) hjl
            have hs := hsz.out L[j] (List.getElem_mem hjl)
            unfold maxLen at hs
            have hft := filter_take hjl
            rw [← hP.out] at hft
            have hnx : L[j].size ≤ 100 → ∀ k (hk : k < L.length), k < j + 1 → L[k].size ≤ 100 := fun h k hk h1 => by
              by_cases e : k = j
              · subst e; exact h
              · exact hno.out k hk (by omega)
            have qj : decide ((j : Int) < (len3 : Int)) = true := decide_eq_true (by omega)
            clear hno hP
            generalize L[j] = x at *
            by_cases hbig : 100 < x.size
            · have q3 : decide ((100 : Int) < (x.size : Int)) = true := decide_eq_true (by omega)
              clear hnx hft
              go_wp2_with fail
              go_ret
              exact Ret.mk rfl HL.out.below
            · have q3 : decide ((100 : Int) < (x.size : Int)) = false := decide_eq_false (by omega)
              replace hnx := Lib.hid (hnx (by omega))
              have P8 := fun w => rfields_any x (by omega) w
              unfold goodW at hft
              obtain ⟨F, hF⟩ : ∃ F, F = fieldsL x.data.toList := ⟨_, rfl⟩
              rw [← hF] at P8 hft
              replace hF := Lib.hid hF
              replace P8 := Lib.hid P8; replace hft := Lib.hid hft
              go_wp2_with fail
              refine Calls.mono (P8.out _) ?_
              rintro e w8 ⟨v8, rfl, H8⟩
              obtain ⟨fa, fc, rfl, _⟩ := St.slice (by omega) 0 H8 rfl
              have R8 : Rd w8 fa (strs (F.map strL)) := St.rd (by omega) 0 H8 rfl
              have hb8 := H8.below
              have H9 := HL.out.thru hb8
              have hbl : b < w8.heap.size := by have := hb8.size; omega
              have e0' := (Below.blk hb8 hb).1
              have e1 : w8.cell? ⟨b, off + j, none⟩ = some (.string x) := by rw [e0' (off + j)]; exact e0
              clear P8 HL H8 e0 e0'
              by_cases hone : F.length = 1
              · obtain ⟨y, rfl⟩ := List.length_eq_one_iff.1 hone
                obtain ⟨b2, off2, rfl, hb2', e2⟩ := strs_at R8 (j := 0) (by simp)
                simp only [List.map_cons, List.map_nil, List.getElem_cons_zero, Nat.add_zero] at e2
                by_cases hy : y = x.data.toList
                · have hsx : strL y = x := by rw [hy]; rfl
                  rw [hsx] at e2
                  have hft2 := hft.out
                  rw [hy, if_pos (decide_eq_true rfl)] at hft2
                  have kx8 : (x.toList == x.toList) = true := by simp
                  clear hft R8 hy hsx hone
                  replace H9 := Lib.hid H9; replace hft2 := Lib.hid hft2
                  go_wp2_with fail
                  refine wp_region_near (by kernel_rfl) (by kernel_rfl) ?_
                  intro hs
                  repeat (go_big_quiet_step (fail))
                  refine wpQuiet_nil ?_
                  clear hs
                  intro w9 hb9
                  have H10 := H9.out.thru hb9
                  have e3 : w9.cell? ⟨b, off + j, none⟩ = some (.string x) := by rw [(Below.blk hb9 hbl).1 (off + j)]; exact e1
                  have hbl9 : b < w9.heap.size := by have := hb9.size; omega
                  clear H9 e1 e2
                  replace H10 := Lib.hid H10
                  go_wp2_with (at_builtin; (refine wpList_appS rfl (.tmp 107) (.tmp 112) _ rfl 9 i0 _ 1 16 Tryd.underlying27 hi hz hz1 hz2 rfl (by omega) 0 _ P.length (strs P) rfl H10.out rfl 1 1 [.string x] rfl rfl (by simp [Value.oneCell']) (by omega) (by omega) ?_; intro v5 w5 H5; obtain ⟨l5, c5, rfl, _⟩ := St.slice (by omega) 0 H5 rfl; replace H5 := Lib.hid H5))
                  go_roundg (len3 - (j + 1))
                  case measure => have := hg.out; omega
                  case rel =>
                    refine ⟨j + 1, l5, c5, P ++ [x], by omega, Lib.hid rfl, by go_num, by rw [List.length_append]; rfl, Lib.hid hft2.out.symm, hnx, Lib.hid ?_⟩
                    rw [List.length_append, show strs (P ++ [x]) = strs P ++ [Value.string x] by simp [strs]]
                    exact H5.out.drops 1
                · have hne := strL_ne (x := y) (y := x) hy
                  have kn : decide (strL y = x) = false := decide_eq_false hne
                  have kn2 : ((strL y).toList == x.toList) = false := by rw [ByteArray.toList_eq, ByteArray.toList_eq]; exact beq_eq_false_iff_ne.2 hy
                  have hft2 := hft.out
                  rw [if_neg (by simpa using hy), List.append_nil] at hft2
                  clear hft R8 hy hone hne
                  replace H9 := Lib.hid H9; replace hft2 := Lib.hid hft2
                  go_wp2_with fail
                  refine wp_region_near (by kernel_rfl) (by kernel_rfl) ?_
                  intro hs
                  repeat (go_big_quiet_step (fail))
                  refine wpQuiet_nil ?_
                  clear hs
                  intro w9 hb9
                  have H10 := Lib.hid (H9.out.thru hb9)
                  go_wp2_with fail
                  go_roundg (len3 - (j + 1))
                  case measure => have := hg.out; omega
                  case rel => exact ⟨j + 1, pa, pc, P, by omega, Lib.hid rfl, by go_num, rfl, Lib.hid hft2.out.symm, hnx, H10⟩
              · have kn : ((F.length : Int) == 1) = false := by rw [beq_eq_false_iff_ne]; omega
                have kn2 : ¬ F.length = 1 := hone
                have hft2 := hft.out
                rw [if_neg (by simp only [decide_eq_true_eq]; intro h; exact hone (by rw [h]; rfl)), List.append_nil] at hft2
                clear hft R8 hone
                replace H9 := Lib.hid H9; replace hft2 := Lib.hid hft2
                go_wp2_with fail
                refine wp_region_near (by kernel_rfl) (by kernel_rfl) ?_
                intro hs
                repeat (go_big_quiet_step (fail))
                refine wpQuiet_nil ?_
                clear hs
                intro w9 hb9
                have H10 := Lib.hid (H9.out.thru hb9)
                go_wp2_with fail
                go_roundg (len3 - (j + 1))
                case measure => have := hg.out; omega
                case rel => exact ⟨j + 1, pa, pc, P, by omega, Lib.hid rfl, by go_num, rfl, Lib.hid hft2.out.symm, hnx, H10⟩
          · obtain rfl : j = len3 := by omega
            have qj : decide ((j : Int) < (j : Int)) = false := decide_eq_false (by omega)
            have hgood : ∀ y ∈ P, fieldsL y.data.toList = [y.data.toList] := by
              intro y hy
              rw [hP.out] at hy
              have := (List.mem_filter.1 hy).2
              unfold goodW at this
              simpa using this
            have hsmall : ∀ y ∈ P, y.size ≤ 200 := by
              intro y hy
              rw [hP.out] at hy
              have hm := List.mem_of_mem_take (List.mem_filter.1 hy).1
              obtain ⟨k, hk, rfl⟩ := List.getElem_of_mem hm
              have := hno.out k hk (by have := hL.out; omega)
              omega
            have hlen := join_len _ P rfl hsmall
            have hback := fields_back P hgood
            have hone : ∀ u ∈ strs P, u.oneCell' = true := by
              intro u hu
              obtain ⟨x, _, rfl⟩ := List.mem_map.1 hu
              rfl
            have E2 := (HL.out.alloc [] 9).row_empty (size := 1) 0 rfl
            obtain ⟨_, _, epv, hpc, hpm, hpn⟩ := St.slice (by omega) 0 HL.out rfl
            injection epv with ep1 ep2 ep3
            subst ep1 ep3
            have hr2 := St.rd (by omega) 1 E2 rfl
            clear hgood hsmall hno hP HL
            replace hpn := Lib.hid hpn
            replace E2 := Lib.hid E2; replace hr2 := Lib.hid hr2; replace hone := Lib.hid hone; replace hlen := Lib.hid hlen; replace hback := Lib.hid hback
            go_wp2_with (at_builtin; (refine wpList_appRd rfl (.tmp 114) (.tmp 115) _ rfl 9 i0 _ 1 16 Tryd.underlying27 hi hz hz1 hz2 rfl (by omega) 0 _ 0 [] rfl E2.out rfl pa P.length pc (strs P) rfl (by unfold strs; rw [List.length_map]; omega) hr2.out hpn.out.1 hone.out (by omega) (by omega) ?_; intro wv5 w8 H5; (try simp only [Nat.zero_add, List.nil_append] at H5); obtain ⟨ja, jc, rfl, hjc, _⟩ := St.slice (by omega) 0 H5 rfl; replace H5 := Lib.hid H5))
            have R5 := St.rd (by omega) 0 H5.out rfl
            have P4 := join_any P P.length jc rfl (by omega) hjc ja w8 R5 (by have := hlen.out; omega)
            clear E2 hr2 R5
            replace P4 := Lib.hid P4
            refine Calls.mono P4.out ?_
            rintro e w9 ⟨rfl, hb9⟩
            have H9 := Lib.hid (H5.out.thru hb9)
            have P5 : Calls Tryd.prog 13 #[.string (strL (joinL P))] w9 (fun e w' => ∃ v, e = .returned v ∧ St w9 none0 w' [rowA 1 v P.length (strs P)]) := by
              have := fields_any (strL (joinL P)) (by rw [strL_size]; have := hlen.out; omega) w9
              rw [show (strL (joinL P)).data.toList = joinL P from rfl, hback.out, List.length_map] at this
              have e2 : strsL (P.map (·.data.toList)) = strs P := by
                unfold strsL
                rw [List.map_map]
                congr 1
                conv => rhs; rw [← List.map_id P]
                rfl
              rw [e2] at this
              exact this
            clear P4 H5
            replace P5 := Lib.hid P5
            go_wp2_with fail
            refine Calls.mono P5.out ?_
            rintro e w10 ⟨v10, rfl, H10⟩
            obtain ⟨fa, fc, rfl, _⟩ := St.slice (by omega) 0 H10 rfl
            have R10 := St.rd (by omega) 0 H10 rfl
            have H11 := H9.out.thru H10.below
            have R11 : Rd w10 pa (strs P) := St.rd (by omega) 1 H11 rfl
            have P6 := strings_any P P.length fc pc rfl (by omega) fa pa w10 R10 R11
            clear P5 H9 H10 R10 R11
            replace P6 := Lib.hid P6; replace H11 := Lib.hid H11
            go_wp2_with fail
            refine Calls.mono P6.out ?_
            rintro e w11 ⟨rfl, hb11⟩
            have H12 := Lib.hid (H11.out.thru hb11)
            clear P6 H11
            go_wp2_with fail
            go_ret
            exact Ret.mk rfl H12.out.below
end Go.Proofs.YtkphbgicffhceaaDoor.Words
