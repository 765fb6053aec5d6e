/- The walks of Join, Side, Name and of works. -/
import Derived.Test.YtkphbgicffhceaaDoorWordRBytes
namespace Go.Proofs.YtkphbgicffhceaaDoor.Words
set_option linter.unusedSimpArgs false
set_option linter.unusedVariables false
open Go Go.RowKit Go.Proofs.YtkphbgicffhceaaDoor
attribute [local irreducible] Calls

theorem tab_below {w w' : World} {k : IntKind} {zs : List Int} (h : Lib.TabIs Tryd.prog w "internal/strconv.uint64pow10" k zs) (hb : Below w.heap.size w w') : Lib.TabIs Tryd.prog w' "internal/strconv.uint64pow10" k zs := by
  unfold Lib.TabIs World.var? at h ⊢
  cases hg : Tryd.prog.globalNamed "internal/strconv.uint64pow10" with
  | none => rw [hg] at h; cases h
  | some g =>
    rw [hg] at h
    simp only [Option.bind_some] at h ⊢
    have hlt : g < w.heap.size := by
      rcases Nat.lt_or_ge g w.heap.size with h' | h'
      · exact h'
      · rw [Array.getElem?_eq_none h'] at h; cases h
    rw [hb.block g hlt]
    exact h
def strs (l : List ByteArray) : List Value := l.map Value.string
def joinL (l : List ByteArray) : List UInt8 := Lib.join (l.map (·.data.toList)) [32]
theorem join_any (l : List ByteArray) (n cap : Nat) (hl : l.length = n) (hn : n ≤ 1000) (hcap : n ≤ cap) (a : Option Addr) (w : World) (h : Rd w a (strs l)) (hlen : (joinL l).length ≤ 1000000) :
    Calls Tryd.prog 15 #[.slice a n cap] w (Ret w (.string (strL (joinL l)))) := by
  by_cases h0 : l = []
  · subst h0
    obtain rfl : n = 0 := hl.symm
    have P := Tryd.strings_Join_none a cap ⟨#[32]⟩ w
    replace P := Lib.hid P
    clear h hlen
    go_enter Tryd.func15, Tryd.ntmps15
    go_wp2_with fail
    refine Calls.mono P.out ?_
    rintro e w1 ⟨rfl, rfl⟩
    go_wp2_with fail
    go_ret
    exact Ret.mk rfl (by repeat (first | with_reducible exact Below.refl _ _ | (with_reducible refine Below.al ?_) | (with_reducible refine Below.drew ?_) | (with_reducible refine Below.set ?_ (by first | (simp; done) | omega | (simp; omega))) | (with_reducible refine Below.thru ?_ (by assumption)) | (with_reducible refine Below.chg ?_ (by assumption) (by first | (simp; done) | omega | (simp; omega)))))
  · obtain ⟨b, off, rfl, hb, hc⟩ := h.cons (by unfold strs; simpa using h0)
    have P := Tryd.strings_Join b off cap l ⟨#[32]⟩ w (fun j x hx => hc j _ (by unfold strs; rw [List.getElem?_map, hx]; rfl)) hb (by omega) (by omega) (by unfold joinL at hlen; exact Nat.le_trans hlen (by omega))
    rw [hl] at P
    replace P := Lib.hid P
    clear h hlen hc
    go_enter Tryd.func15, Tryd.ntmps15
    go_wp2_with fail
    refine Calls.mono P.out ?_
    rintro e w1 ⟨rfl, hb1⟩
    go_wp2_with fail
    go_ret
    exact Ret.mk rfl (by repeat (first | with_reducible exact Below.refl _ _ | (with_reducible refine Below.al ?_) | (with_reducible refine Below.drew ?_) | (with_reducible refine Below.set ?_ (by first | (simp; done) | omega | (simp; omega))) | (with_reducible refine Below.thru ?_ (by assumption)) | (with_reducible refine Below.chg ?_ (by assumption) (by first | (simp; done) | omega | (simp; omega)))))
theorem works_num : numV [52, 55] = (47, true) := by decide
theorem works_bytes : bytesV [52, 97] = ([74], true) := by decide
theorem works_hex : hexS [74] = [52, 97] := by decide
theorem works_join : joinL [⟨#[97]⟩, ⟨#[98]⟩] = [97, 32, 98] := by decide
theorem works_of : Lib.decDigits 47 = [52, 55] := by rw [Lib.decDigits_two (by omega) (by omega)]; rfl
theorem of_small (i : Nat) (h : i < 100) (w : World) : Calls Tryd.prog 10 #[.int .i64 i] w (Ret w (.string (strL (Lib.decDigits i)))) := by
  have P := Tryd.strconv_Itoa_small i h w
  replace P := Lib.hid P
  go_enter Tryd.func10, Tryd.ntmps10
  go_wp2_with fail
  refine Calls.mono P.out ?_
  rintro e w1 ⟨rfl, rfl⟩
  go_wp2_with fail
  go_ret
  exact Ret.mk rfl (by repeat (first | with_reducible exact Below.refl _ _ | (with_reducible refine Below.al ?_) | (with_reducible refine Below.drew ?_) | (with_reducible refine Below.set ?_ (by first | (simp; done) | omega | (simp; omega))) | (with_reducible refine Below.thru ?_ (by assumption)) | (with_reducible refine Below.chg ?_ (by assumption) (by first | (simp; done) | omega | (simp; omega)))))
set_option maxRecDepth 100000 in
theorem works_law (w : World) : Calls Tryd.prog 7 #[] w (Ret w (.bool true)) := by
  have P1 := fun w => num_any ⟨#[52, 55]⟩ w
  have P2 := fun w => bytes_any ⟨#[52, 97]⟩ (by decide) w
  have P3 := fun w => of_small 47 (by omega) w
  have P4 := fun w => hex_any ⟨#[74]⟩ (by decide) w
  rw [works_num] at P1
  rw [works_bytes] at P2
  rw [works_of] at P3
  rw [works_hex] at P4
  simp only [strL] at P1 P2 P3 P4
  replace P1 := Lib.hid P1; replace P2 := Lib.hid P2; replace P3 := Lib.hid P3; replace P4 := Lib.hid P4
  go_enter Tryd.func7, Tryd.ntmps7
  go_wp2_with fail
  refine Calls.mono (P1.out _) ?_
  rintro e w1 ⟨rfl, hb1⟩
  have z1 := Below.size hb1; try simp only [World.size_alloc, World.size_setCell, World.size_drew] at z1
  go_wp2_with fail
  refine Calls.mono (P2.out _) ?_
  rintro e w2 ⟨rfl, hb2⟩
  have z2 := Below.size hb2; try simp only [World.size_alloc, World.size_setCell, World.size_drew] at z2
  go_wp2_with fail
  refine Calls.mono (P3.out _) ?_
  rintro e w3 ⟨rfl, hb3⟩
  have z3 := Below.size hb3; try simp only [World.size_alloc, World.size_setCell, World.size_drew] at z3
  go_wp2_with fail
  refine Calls.mono (P4.out _) ?_
  rintro e w4 ⟨rfl, hb4⟩
  have z4 := Below.size hb4; try simp only [World.size_alloc, World.size_setCell, World.size_drew] at z4
  go_wp2_with fail
  have E := (St.zero w4).alloc [.string ⟨#[97]⟩, .string ⟨#[98]⟩] 9
  have hR : Rd (w4.alloc (.cells #[.string ⟨#[97]⟩, .string ⟨#[98]⟩] 9)) (some ⟨w4.heap.size, 0, none⟩) (strs [⟨#[97]⟩, ⟨#[98]⟩]) := (E.box 0 rfl).rd
  have P5 := join_any [⟨#[97]⟩, ⟨#[98]⟩] 2 2 rfl (by omega) (by omega) _ _ hR (by rw [works_join]; decide)
  rw [works_join] at P5
  simp only [strL] at P5
  clear E hR P1 P2 P3 P4
  replace P5 := Lib.hid P5
  refine Calls.mono P5.out ?_
  rintro e w5 ⟨rfl, hb5⟩
  clear P5
  go_wp2_with fail
  go_ret
  exact Ret.mk rfl (by repeat (first | with_reducible exact Below.refl _ _ | (with_reducible refine Below.al ?_) | (with_reducible refine Below.drew ?_) | (with_reducible refine Below.set ?_ (by first | (simp; done) | omega | (simp; omega))) | (with_reducible refine Below.thru ?_ (by assumption)) | (with_reducible refine Below.chg ?_ (by assumption) (by first | (simp; done) | omega | (simp; omega)))))
theorem side_any (s : ByteArray) (w : World) : Calls Tryd.prog 19 #[.string s] w (Ret w (.tuple #[.int .i64 (if s.data.toList = [98] then 1 else 0), .bool (decide (s.data.toList = [97] ∨ s.data.toList = [98]))])) := by
  by_cases ha : s.data.toList = [97]
  · obtain rfl : s = ⟨#[97]⟩ := strL_inj ha
    clear ha
    have e : Value.tuple #[Value.int .i64 (if (ByteArray.mk #[97]).data.toList = [98] then 1 else 0), .bool (decide ((ByteArray.mk #[97]).data.toList = [97] ∨ (ByteArray.mk #[97]).data.toList = [98]))] = .tuple #[.int .i64 0, .bool true] := rfl
    rw [e]
    clear e
    go_enter Tryd.func19, Tryd.ntmps19
    go_wp2_with fail
    go_ret2
    exact Ret.mk rfl (by repeat (first | with_reducible exact Below.refl _ _ | (with_reducible refine Below.al ?_) | (with_reducible refine Below.drew ?_) | (with_reducible refine Below.set ?_ (by first | (simp; done) | omega | (simp; omega))) | (with_reducible refine Below.thru ?_ (by assumption)) | (with_reducible refine Below.chg ?_ (by assumption) (by first | (simp; done) | omega | (simp; omega)))))
  · by_cases hb : s.data.toList = [98]
    · obtain rfl : s = ⟨#[98]⟩ := strL_inj hb
      clear ha hb
      have e : Value.tuple #[Value.int .i64 (if (ByteArray.mk #[98]).data.toList = [98] then 1 else 0), .bool (decide ((ByteArray.mk #[98]).data.toList = [97] ∨ (ByteArray.mk #[98]).data.toList = [98]))] = .tuple #[.int .i64 1, .bool true] := rfl
      rw [e]
      clear e
      go_enter Tryd.func19, Tryd.ntmps19
      go_wp2_with fail
      go_ret2
      exact Ret.mk rfl (by repeat (first | with_reducible exact Below.refl _ _ | (with_reducible refine Below.al ?_) | (with_reducible refine Below.drew ?_) | (with_reducible refine Below.set ?_ (by first | (simp; done) | omega | (simp; omega))) | (with_reducible refine Below.thru ?_ (by assumption)) | (with_reducible refine Below.chg ?_ (by assumption) (by first | (simp; done) | omega | (simp; omega)))))
    · have ka : decide (s = ⟨#[97]⟩) = false := decide_eq_false (fun e => ha (by rw [e]))
      have kb : decide (s = ⟨#[98]⟩) = false := decide_eq_false (fun e => hb (by rw [e]))
      have ka2 : (s.toList == [97]) = false := by rw [ByteArray.toList_eq]; exact beq_eq_false_iff_ne.2 ha
      have kb2 : (s.toList == [98]) = false := by rw [ByteArray.toList_eq]; exact beq_eq_false_iff_ne.2 hb
      rw [if_neg hb, decide_eq_false (fun h => h.elim ha hb)]
      replace ha := Lib.hid ha; replace hb := Lib.hid hb
      go_enter Tryd.func19, Tryd.ntmps19
      go_wp2_with fail
      go_ret2
      exact Ret.mk rfl (by repeat (first | with_reducible exact Below.refl _ _ | (with_reducible refine Below.al ?_) | (with_reducible refine Below.drew ?_) | (with_reducible refine Below.set ?_ (by first | (simp; done) | omega | (simp; omega))) | (with_reducible refine Below.thru ?_ (by assumption)) | (with_reducible refine Below.chg ?_ (by assumption) (by first | (simp; done) | omega | (simp; omega)))))
def nameL (k : Int) : List UInt8 := if k = 0 then [97] else if k = 1 then [98] else [63]
theorem name_any (k : Int) (w : World) : Calls Tryd.prog 22 #[.int .i64 k] w (Ret w (.string (strL (nameL k)))) := by
  unfold nameL
  by_cases h0 : k = 0
  · subst h0
    rw [if_pos rfl]
    go_enter Tryd.func22, Tryd.ntmps22
    go_wp2_with fail
    go_ret
    exact Ret.mk rfl (by repeat (first | with_reducible exact Below.refl _ _ | (with_reducible refine Below.al ?_) | (with_reducible refine Below.drew ?_) | (with_reducible refine Below.set ?_ (by first | (simp; done) | omega | (simp; omega))) | (with_reducible refine Below.thru ?_ (by assumption)) | (with_reducible refine Below.chg ?_ (by assumption) (by first | (simp; done) | omega | (simp; omega)))))
  · by_cases h1 : k = 1
    · subst h1
      rw [if_neg (by omega), if_pos rfl]
      clear h0
      go_enter Tryd.func22, Tryd.ntmps22
      go_wp2_with fail
      go_ret
      exact Ret.mk rfl (by repeat (first | with_reducible exact Below.refl _ _ | (with_reducible refine Below.al ?_) | (with_reducible refine Below.drew ?_) | (with_reducible refine Below.set ?_ (by first | (simp; done) | omega | (simp; omega))) | (with_reducible refine Below.thru ?_ (by assumption)) | (with_reducible refine Below.chg ?_ (by assumption) (by first | (simp; done) | omega | (simp; omega)))))
    · have k0 : (k == 0) = false := by simp; omega
      have k1 : (k == 1) = false := by simp; omega
      rw [if_neg h0, if_neg h1]
      replace h0 := Lib.hid h0; replace h1 := Lib.hid h1
      go_enter Tryd.func22, Tryd.ntmps22
      go_wp2_with fail
      go_ret
      exact Ret.mk rfl (by repeat (first | with_reducible exact Below.refl _ _ | (with_reducible refine Below.al ?_) | (with_reducible refine Below.drew ?_) | (with_reducible refine Below.set ?_ (by first | (simp; done) | omega | (simp; omega))) | (with_reducible refine Below.thru ?_ (by assumption)) | (with_reducible refine Below.chg ?_ (by assumption) (by first | (simp; done) | omega | (simp; omega)))))
end Go.Proofs.YtkphbgicffhceaaDoor.Words
