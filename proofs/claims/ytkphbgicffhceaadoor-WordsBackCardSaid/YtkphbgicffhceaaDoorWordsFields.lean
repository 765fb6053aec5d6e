/- The walk of the statement WordsFields. -/
import Derived.Test.YtkphbgicffhceaaDoorWordJoin
import Derived.Test.YtkphbgicffhceaaDoorFits
namespace Go.Proofs.YtkphbgicffhceaaDoor.Words
set_option linter.unusedSimpArgs false
set_option linter.unusedVariables false
open Go Go.RowKit Go.Proofs.YtkphbgicffhceaaDoor
attribute [local irreducible] Calls

/-- An operation behind a guard that is met. -/
theorem wpList_guard {P : Program} {ops : Array Oper} {rest : List Oper} {o : Oper} {a : Act} {w : World} {Q : Exit → Act → World → Prop} (hw : Region.wanted o (yielded ops a.tmps) = true)
    (h : wpList P ops Q ({ o with guard := none } :: rest) a w) : wpList P ops Q (o :: rest) a w := by
  unfold wpList at h ⊢
  rw [if_pos hw]
  rw [if_pos (by simp [Region.wanted])] at h
  exact h
theorem strs_in {w : World} {a : Option Addr} {len cap : Nat} (h : Fits w (.slice 1 .str) [.slice a len cap]) :
    len ≤ maxLen ∧ len ≤ cap ∧ (a = none → len = 0) ∧ ∃ l : List ByteArray, l.length = len ∧ (∀ x ∈ l, x.size ≤ maxLen) ∧ Rd w a (strs l) := by
  have hcap : len ≤ cap := by
    have h2 := h
    rcases h2 with h2 | ⟨x, l, c, h2, h3, _⟩
    · simp at h2; omega
    · simp at h2; omega
  obtain ⟨h0, h1, l, h3, h4, h5⟩ := rows_in (size := 1) (fun s : ByteArray => [Value.string s]) (by omega) (fun _ => rfl) (good := fun s : ByteArray => s.size ≤ maxLen) (fun cs hf _ => by
    obtain ⟨s, rfl, hs⟩ := hf
    exact ⟨s, rfl, hs⟩) h
  refine ⟨h0, hcap, h1, l, h3, h4, ?_⟩
  have e : strs l = l.flatMap fun s => [Value.string s] := by
    clear h3 h4 h5
    unfold strs
    induction l with
    | nil => rfl
    | cons x l ih => rw [List.map_cons, ih]; rfl
  rw [e]
  exact h5
theorem strsL_strs (o : List (List UInt8)) : strsL o = strs (o.map strL) := rfl
set_option maxRecDepth 100000 in
set_option maxHeartbeats 1000000 in
theorem fields_walk (a0 : ByteArray) (w0 : a0.size ≤ maxLen) (a1 : Option Addr) (len1 cap1 : Nat) (w : World) (h1 : Fits w (.slice 1 .str) [.slice a1 len1 cap1]) (htab : Lib.TabIs Tryd.prog w "internal/strconv.uint64pow10" .u64 Lib.pow10Tab) :
    Calls Tryd.prog 4 #[.string a0, .slice a1 len1 cap1] w (Ret w (.bool true)) := by
  obtain ⟨hmax, hcap, hnone, L, hL, hsz, hR⟩ := strs_in h1
  unfold maxLen at w0 hmax
  clear htab h1
  replace hL := Lib.hid hL; replace hsz := Lib.hid hsz; replace hR := Lib.hid hR; replace hnone := Lib.hid hnone
  go_enter Tryd.func4, Tryd.ntmps4
  go_wp2_with fail
  refine Calls.mono (works_law _) ?_
  rintro e w1 ⟨rfl, hb1⟩
  have z1 := Below.size hb1; try simp only [World.size_alloc, World.size_setCell, World.size_drew] at z1
  by_cases h5 : 5000 < a0.size
  · have q : decide ((5000 : Int) < (a0.size : Int)) = true := decide_eq_true (by omega)
    go_wp2_with fail
    go_ret
    exact Ret.mk rfl (by repeat (first | with_reducible exact Below.refl _ _ | (with_reducible refine Below.al ?_) | (with_reducible refine Below.drew ?_) | (with_reducible refine Below.set ?_ (by first | (simp; done) | omega | (simp; omega))) | (with_reducible refine Below.thru ?_ (by assumption)) | (with_reducible refine Below.chg ?_ (by assumption) (by first | (simp; done) | omega | (simp; omega)))))
  · have q : decide ((5000 : Int) < (a0.size : Int)) = false := decide_eq_false (by omega)
    by_cases h2 : 200 < len1
    · have q2 : decide ((200 : Int) < (len1 : Int)) = true := decide_eq_true (by omega)
      go_wp2_with fail
      go_ret
      exact Ret.mk rfl (by repeat (first | with_reducible exact Below.refl _ _ | (with_reducible refine Below.al ?_) | (with_reducible refine Below.drew ?_) | (with_reducible refine Below.set ?_ (by first | (simp; done) | omega | (simp; omega))) | (with_reducible refine Below.thru ?_ (by assumption)) | (with_reducible refine Below.chg ?_ (by assumption) (by first | (simp; done) | omega | (simp; omega)))))
    · have q2 : decide ((200 : Int) < (len1 : Int)) = false := decide_eq_false (by omega)
      go_wp2_with fail
      go_loopg [5] len1 (fun g i wr => ∃ j : Nat, j ≤ len1 ∧ Hid (g = len1 - j) ∧ i = .int .i64 j ∧ Hid (∀ k (hk : k < L.length), k < j → L[k].size ≤ 200) ∧ Below w.heap.size w wr)
      case atStart => exact ⟨0, by omega, Lib.hid rfl, rfl, Lib.hid (fun k hk h => by omega), (by repeat (first | with_reducible exact Below.refl _ _ | (with_reducible refine Below.al ?_) | (with_reducible refine Below.drew ?_) | (with_reducible refine Below.set ?_ (by first | (simp; done) | omega | (simp; omega))) | (with_reducible refine Below.thru ?_ (by assumption)) | (with_reducible refine Below.chg ?_ (by assumption) (by first | (simp; done) | omega | (simp; omega)))))⟩
      case round =>
        clear z1 hb1
        obtain ⟨j, hj, hg, rfl, hno, hbw⟩ := hrel
        by_cases hlt : j < len1
        · have hjl : j < L.length := by have := hL.out; omega
          obtain ⟨b, off, rfl, hb, e0⟩ := strs_at (hR.out.below hbw) hjl
          have hs := hsz.out L[j] (List.getElem_mem hjl)
          unfold maxLen at hs
          have hnx : L[j].size ≤ 200 → ∀ k (hk : k < L.length), k < j + 1 → L[k].size ≤ 200 := fun h k hk h1 => by
            by_cases e : k = j
            · subst e; exact h
            · exact hno.out k hk (by omega)
          have qj : decide ((j : Int) < (len1 : Int)) = true := decide_eq_true (by omega)
          clear hno
          generalize L[j] = x at *
          by_cases hbig : 200 < x.size
          · have q3 : decide ((200 : Int) < (x.size : Int)) = true := decide_eq_true (by omega)
            clear hnx
            go_wp2_with fail
            go_ret
            exact Ret.mk rfl (by repeat (first | with_reducible exact Below.refl _ _ | (with_reducible refine Below.al ?_) | (with_reducible refine Below.drew ?_) | (with_reducible refine Below.set ?_ (by first | (simp; done) | omega | (simp; omega))) | (with_reducible refine Below.thru ?_ (by assumption)) | (with_reducible refine Below.chg ?_ (by assumption) (by first | (simp; done) | omega | (simp; omega)))))
          · have q3 : decide ((200 : Int) < (x.size : Int)) = false := decide_eq_false (by omega)
            replace hnx := Lib.hid (hnx (by omega))
            go_wp2_with fail
            go_roundg (len1 - (j + 1))
            case measure => have := hg.out; omega
            case rel => exact ⟨j + 1, by omega, Lib.hid rfl, by go_num, hnx, (by repeat (first | with_reducible exact Below.refl _ _ | (with_reducible refine Below.al ?_) | (with_reducible refine Below.drew ?_) | (with_reducible refine Below.set ?_ (by first | (simp; done) | omega | (simp; omega))) | (with_reducible refine Below.thru ?_ (by assumption)) | (with_reducible refine Below.chg ?_ (by assumption) (by first | (simp; done) | omega | (simp; omega)))))⟩
        · obtain rfl : j = len1 := by omega
          have qj : decide ((j : Int) < (j : Int)) = false := decide_eq_false (by omega)
          have hb200 : ∀ x ∈ L, x.size ≤ 200 := by
            intro x hx
            obtain ⟨k, hk, rfl⟩ := List.getElem_of_mem hx
            exact hno.out k hk (by have := hL.out; omega)
          have P1 := fun w => fields_any a0 (by omega) w
          have P2 := fun w => rfields_any a0 (by omega) w
          have hFl : (fieldsL a0.data.toList).length ≤ 5001 := by
            have h1 := fold_len0 a0.data.toList
            have h2 : a0.data.toList.length = a0.size := by simp
            unfold fieldsL fEnd
            split
            · omega
            · simp only [List.length_append, List.length_cons, List.length_nil]; omega
          generalize fieldsL a0.data.toList = F at *
          clear hno hsz
          replace P1 := Lib.hid P1; replace P2 := Lib.hid P2; replace hb200 := Lib.hid hb200; replace hFl := Lib.hid hFl
          go_wp2_with fail
          refine Calls.mono (P1.out _) ?_
          rintro e w2 ⟨v2, rfl, H2⟩
          obtain ⟨fa, fc, rfl, _⟩ := St.slice (by omega) 0 H2 rfl
          have R2 := St.rd (by omega) 0 H2 rfl
          have hb2 := H2.below
          clear P1 H2
          replace R2 := Lib.hid R2
          go_wp2_with fail
          refine Calls.mono (P2.out _) ?_
          rintro e w3 ⟨v3, rfl, H3⟩
          obtain ⟨ga, gc, rfl, _⟩ := St.slice (by omega) 0 H3 rfl
          have R3 := St.rd (by omega) 0 H3 rfl
          have hb3 := H3.below
          have P3 := strings_any (F.map strL) F.length fc gc (by simp) (by have := hFl.out; omega) fa ga w3 (R2.out.below hb3) R3
          clear P2 H3 R2 R3
          replace P3 := Lib.hid P3
          go_wp2_with fail
          refine Calls.mono (P3.out) ?_
          rintro e w4 ⟨rfl, hb4⟩
          have z4 := Below.size hb4; try simp only [World.size_alloc, World.size_setCell, World.size_drew] at z4
          clear P3
          have hbw4 : Below w.heap.size w w4 := (by repeat (first | with_reducible exact Below.refl _ _ | (with_reducible refine Below.al ?_) | (with_reducible refine Below.drew ?_) | (with_reducible refine Below.set ?_ (by first | (simp; done) | omega | (simp; omega))) | (with_reducible refine Below.thru ?_ (by assumption)) | (with_reducible refine Below.chg ?_ (by assumption) (by first | (simp; done) | omega | (simp; omega)))))
          obtain ⟨i0, hi, hz, hz1, hz2⟩ := info_parts str_info
          have E2 := ((St.zero w4).alloc [] 9).row_empty (size := 1) 0 rfl
          have hR4 := (hR.out.below hbw4)
          have hr2 := hR4.below ((Below.refl w4.heap.size w4).alloc (Nat.le_refl _) (.cells #[] 9))
          have hone : ∀ u ∈ strs L, u.oneCell' = true := by
            intro u hu
            obtain ⟨x, _, rfl⟩ := List.mem_map.1 hu
            rfl
          have hlen : (joinL L).length ≤ 1000000 := by
            have := join_len _ L rfl hb200.out
            have := hL.out
            omega
          replace E2 := Lib.hid E2; replace hr2 := Lib.hid hr2; replace hR4 := Lib.hid hR4; replace hone := Lib.hid hone; replace hlen := Lib.hid hlen
          go_wp2_with (at_builtin; (refine wpList_guard (by rfl) ?_; refine wpList_appRd rfl (.tmp 34) (.tmp 35) _ rfl 9 i0 _ 1 16 Tryd.underlying27 hi hz hz1 hz2 rfl (by omega) 0 _ 0 [] rfl E2.out rfl a1 j cap1 (strs L) rfl (by unfold strs; rw [List.length_map, hL.out]; omega) hr2.out hnone.out hone.out (by omega) (by omega) ?_; intro wv5 w5 H5; (try simp only [Nat.zero_add, List.nil_append] at H5); obtain ⟨ja, jc, rfl, hjc, _⟩ := St.slice (by omega) 0 H5 rfl; replace H5 := Lib.hid H5))
          have R5 := St.rd (by omega) 0 H5.out rfl
          have hb5 := H5.out.below
          have P4 := join_any L j jc hL.out (by omega) hjc ja w5 R5 hlen.out
          clear E2 hr2 R5
          replace P4 := Lib.hid P4
          refine Calls.mono P4.out ?_
          rintro e w6 ⟨rfl, hb6⟩
          have P5 := rjoin_any L j cap1 hL.out (by omega) hb200.out a1 w6 ((hR4.out.below hb5).below hb6)
          clear P4 hone hlen
          replace P5 := Lib.hid P5
          go_wp2_with fail
          refine Calls.mono (P5.out) ?_
          rintro e w7 ⟨rfl, hb7⟩
          have z7 := Below.size hb7; try simp only [World.size_alloc, World.size_setCell, World.size_drew] at z7
          go_wp2_with fail
          go_ret
          exact Ret.mk rfl (by repeat (first | with_reducible exact Below.refl _ _ | (with_reducible refine Below.al ?_) | (with_reducible refine Below.drew ?_) | (with_reducible refine Below.set ?_ (by first | (simp; done) | omega | (simp; omega))) | (with_reducible refine Below.thru ?_ (by assumption)) | (with_reducible refine Below.chg ?_ (by assumption) (by first | (simp; done) | omega | (simp; omega)))))
end Go.Proofs.YtkphbgicffhceaaDoor.Words
