/- The walks of the statement's own 'works' and 'put'. -/
import Derived.Test.YthodfihdmhkgeaaInet
import Derived.Test.YthodfihdmhkgeaaStep
namespace Go.Proofs.Ythodfihdmhkgeaa.Inet
set_option linter.unusedSimpArgs false
set_option linter.unusedVariables false
open Go Go.RowKit Go.Proofs.Ythodfihdmhkgeaa Go.Proofs.Ythodfihdmhkgeaa.Octets
attribute [local irreducible] Calls

theorem words_set : ∀ (l : List UInt8) (k : Nat) (a b : UInt8), k % 2 = 0 → (h : k + 1 < l.length) → words ((l.set k a).set (k + 1) b) + 256 * (l[k]).toNat + (l[k + 1]).toNat = words l + 256 * a.toNat + b.toNat
  | [], k, a, b, _, h => by simp at h
  | [x], k, a, b, _, h => by simp at h
  | x :: y :: l, 0, a, b, _, h => by simp [words]; omega
  | x :: y :: l, 1, a, b, h2, h => by simp at h2
  | x :: y :: l, k + 2, a, b, h2, h => by
    have := words_set l k a b (by omega) (by simp only [List.length_cons] at h; omega)
    simp only [List.set_cons_succ, words, List.getElem_cons_succ]
    omega

theorem set_two {α β : Type} (f : α → β) (l : List α) (k : Nat) (a b : α) (h : k + 1 < l.length) : ((l.set k a).set (k + 1) b).map f = (l.map f).take k ++ [f a, f b] ++ (l.map f).drop (k + [f a, f b].length) := by
  have e : (l.set k a).set (k + 1) b = l.take k ++ [a, b] ++ l.drop (k + 2) := by
    apply List.ext_getElem?
    intro i
    rw [List.append_assoc]
    rcases Nat.lt_or_ge i k with h1 | h1
    · rw [List.getElem?_append_left (by rw [List.length_take]; omega), List.getElem?_take_of_lt h1, List.getElem?_set_ne (by omega), List.getElem?_set_ne (by omega)]
    · have ht : (l.take k).length = k := by rw [List.length_take]; omega
      rw [List.getElem?_append_right (by omega), ht]
      obtain ⟨d, rfl⟩ := Nat.exists_eq_add_of_le h1
      rw [Nat.add_sub_cancel_left]
      match d with
      | 0 => rw [List.getElem?_set_ne (by omega), Nat.add_zero, List.getElem?_set_self (by omega)]; rfl
      | 1 => rw [List.getElem?_set_self (by rw [List.length_set]; omega)]; rfl
      | d + 2 => rw [List.getElem?_set_ne (by omega), List.getElem?_set_ne (by omega)]; simp [List.getElem?_drop]; congr 1; omega
  rw [e, List.map_append, List.map_append, List.map_take, List.map_drop]
  rfl
theorem rd_lit {w : World} {vs : List Value} {t : TypeId} : Rd (w.alloc (.cells vs.toArray t)) (some ⟨w.heap.size, 0, none⟩) vs :=
  .inr ⟨w.heap.size, 0, rfl, by simp, fun j u h => by rw [Nat.zero_add, World.cell?_alloc_new]; simpa using h⟩
def putS (s : ByteArray) (k : Nat) (n : Int) : ByteArray := ⟨((s.data.toList.set k (UInt8.ofNat (n / 256).toNat)).set (k + 1) (UInt8.ofNat (n % 256).toNat)).toArray⟩

theorem pseudo_len (a b c : Int) (ha : -9223372036854775808 ≤ a ∧ a ≤ 9223372036854775807) (hb : -9223372036854775808 ≤ b ∧ b ≤ 9223372036854775807) (hc : -9223372036854775808 ≤ c ∧ c ≤ 9223372036854775807) (w : World) :
    Calls Try.prog 56 #[.int .i64 a, .int .i64 b, .int .i64 c] w (Ret w (.string ⟨(((([] ++ putB a 4) ++ putB b 4) ++ putB 33 2) ++ putB c 2).toArray⟩)) := by
  have l1 := putB_len 4 a
  have l2 := putB_len 4 b
  have l3 := putB_len 2 33
  have P1 := fun w => put_int ByteArray.empty a 4 w (by decide) (by omega) ha
  have P2 := fun w => put_int ⟨([] ++ putB a 4).toArray⟩ b 4 w (by simp [ByteArray.size]; omega) (by omega) hb
  have P3 := fun w => put_int ⟨(([] ++ putB a 4) ++ putB b 4).toArray⟩ 33 2 w (by simp [ByteArray.size]; omega) (by omega) (by omega)
  have P4 := fun w => put_int ⟨((([] ++ putB a 4) ++ putB b 4) ++ putB 33 2).toArray⟩ c 2 w (by simp [ByteArray.size]; omega) (by omega) hc
  replace P1 := Lib.hid P1; replace P2 := Lib.hid P2; replace P3 := Lib.hid P3; replace P4 := Lib.hid P4
  go_enter Try.func56, Try.ntmps56
  go_wp2_with fail
  refine Calls.mono (P1.out _) ?_
  rintro e w1 ⟨rfl, hb1⟩
  have z1 := Below.size hb1; try simp only [World.size_alloc, World.size_setCell, World.size_drew] at z1
  go_wp2_with fail
  refine Calls.mono (P2.out _) ?_
  rintro e w2 ⟨rfl, hb2⟩
  have z2 := Below.size hb2; try simp only [World.size_alloc, World.size_setCell, World.size_drew] at z2
  go_wp2_with fail
  refine Calls.mono (P3.out _) ?_
  rintro e w3 ⟨rfl, hb3⟩
  have z3 := Below.size hb3; try simp only [World.size_alloc, World.size_setCell, World.size_drew] at z3
  go_wp2_with fail
  refine Calls.mono (P4.out _) ?_
  rintro e w4 ⟨rfl, hb4⟩
  have z4 := Below.size hb4; try simp only [World.size_alloc, World.size_setCell, World.size_drew] at z4
  go_wp2_with fail
  go_ret
  exact Ret.mk rfl (by repeat (first | with_reducible exact Below.refl _ _ | (with_reducible refine Below.al ?_) | (with_reducible refine Below.drew ?_) | (with_reducible refine Below.set ?_ (by first | (simp; done) | omega | (simp; omega))) | (with_reducible refine Below.thru ?_ (by assumption)) | (with_reducible refine Below.chg ?_ (by assumption) (by first | (simp; done) | omega | (simp; omega)))))

set_option maxRecDepth 100000 in
theorem put_law (s : ByteArray) (k : Nat) (n : Int) (hk : k + 1 < s.size) (hs : s.size ≤ 1000000) (hn : 0 ≤ n ∧ n ≤ 65535) (w : World) :
    Calls Try.prog 41 #[.string s, .int .i64 k, .int .u16 n] w (Ret w (.tuple #[.string (putS s k n), .int .i64 (256 * ((s.data.toList[k]'(by simp; omega)).toNat : Int) + ((s.data.toList[k + 1]'(by simp; omega)).toNat : Int))])) := by
  have hl0 : s.data.toList.length = s.size := by simp
  obtain ⟨hn0, hn1⟩ := hn
  go_enter Try.func41, Try.ntmps41
  go_wp2_with (refine wpList_bytes rfl (.tmp 10) _ _ _ rfl Try.underlying9 Try.underlying57 Try.underlying5 s rfl (by unfold maxLen; omega) ?_; intro v w1 hown hb1 hblk)
  have zb := hb1.size
  have H1 := (St.zero w).row_new hb1 hown
  rcases hown.2 with ⟨rfl, h0⟩ | ⟨g, o, cap, rfl, hgb, hlt, hnc, hcm, hx, hr⟩
  · omega
  have e0 := hx k (byteVal (s.data.toList[k]'(by omega))) (by rw [List.getElem?_map, List.getElem?_eq_getElem (by omega)]; rfl)
  have e1 := hx (k + 1) (byteVal (s.data.toList[k + 1]'(by omega))) (by rw [List.getElem?_map, List.getElem?_eq_getElem (by omega)]; rfl)
  have f0 := (hr k (by omega)).2
  have f1 := (hr (k + 1) (by omega)).2
  have b0 := (s.data.toList[k]'(by omega)).toNat_lt
  have b1 := (s.data.toList[k + 1]'(by omega)).toNat_lt
  obtain ⟨x0, hx0⟩ : ∃ x : UInt8, x = s.data.toList[k]'(by omega) := ⟨_, rfl⟩
  obtain ⟨x1, hx1⟩ : ∃ x : UInt8, x = s.data.toList[k + 1]'(by omega) := ⟨_, rfl⟩
  rw [← hx0] at e0 b0
  rw [← hx1] at e1 b1
  unfold byteVal at e0 e1
  clear hx hr hblk
  replace H1 := Lib.hid H1
  replace hown := Lib.hid hown; replace hx0 := Lib.hid hx0; replace hx1 := Lib.hid hx1
  go_wp2_with fail
  refine wp_region_near (by kernel_rfl) (by kernel_rfl) ?_
  intro hs
  repeat (go_big_quiet_step (fail))
  refine wpQuiet_nil ?_
  clear hs
  intro w2 hb2
  have H2 := H1.out.thru hb2
  have z2 := H2.size
  have lt2 : g < w2.heap.size := Nat.lt_of_lt_of_le hlt hb2.size
  have c0 : w2.cell? ⟨g, o + k, none⟩ = some (.int .u8 x0.toNat) := by rw [(Below.blk hb2 hlt).1, e0]
  have c1 : w2.cell? ⟨g, o + (k + 1), none⟩ = some (.int .u8 x1.toNat) := by rw [(Below.blk hb2 hlt).1, e1]
  have d0 : w2.frozen? ⟨g, o + k, none⟩ = false := by rw [(Below.blk hb2 hlt).2, f0]
  have d1 : w2.frozen? ⟨g, o + (k + 1), none⟩ = false := by rw [(Below.blk hb2 hlt).2, f1]
  clear e0 e1 f0 f1
  have H3 := H2.over (p := k) (k := 0) (news := [byteVal (UInt8.ofNat (n / 256).toNat), byteVal (UInt8.ofNat (n % 256).toNat)]) rfl (by simp; omega)
  rw [← set_two byteVal s.data.toList k _ _ (by omega)] at H3
  have q1 : byteVal (UInt8.ofNat (n / 256).toNat) = .int .u8 (n / 256) := by unfold byteVal; rw [UInt8.toNat_ofNat']; congr 1; omega
  have q2 : byteVal (UInt8.ofNat (n % 256).toNat) = .int .u8 (n % 256) := by unfold byteVal; rw [UInt8.toNat_ofNat']; congr 1; omega
  rw [q1, q2] at H3
  have H4 : St w none0 ((w2.setCell ⟨g, o + k, none⟩ (.int .u8 (n / 256))).setCell ⟨g, o + (k + 1), none⟩ (.int .u8 (n % 256))) _ := H3
  have hstr := run_str (P := Try.prog) 0 _ _ _ Try.underlying57 Try.underlying5 Try.underlying9 _ ((s.data.toList.set k (UInt8.ofNat (n / 256).toNat)).set (k + 1) (UInt8.ofNat (n % 256).toNat)) s.size (by simp) (H4.row 0 rfl)
  have hst : (⟨((s.data.toList.set k (UInt8.ofNat (n / 256).toNat)).set (k + 1) (UInt8.ofNat (n % 256).toNat)).toArray⟩ : ByteArray) = putS s k n := rfl
  rw [hst] at hstr
  have hbE := H4.below
  clear H3 H4 hst q1 q2
  replace H2 := Lib.hid H2; replace hbE := Lib.hid hbE
  go_wp2_with fail
  go_ret2
  exact Ret.mk (by rw [← hx0.out, ← hx1.out]; simp [go_sem]) hbE.out

theorem works_law (w : World) : Calls Try.prog 39 #[] w (Ret w (.bool true)) := by
  have S1 := fun (a : Option Addr) w h => sum_any [⟨#[0, 1, 242, 3]⟩, ⟨#[244, 245, 246, 247]⟩] 2 rfl (by omega) (by decide) a 2 w h
  have S0 := fun (a : Option Addr) w h => sum_any [] 0 rfl (by omega) (by simp) a 0 w h
  rw [show sumV (wsum [⟨#[0, 1, 242, 3]⟩, ⟨#[244, 245, 246, 247]⟩]) = 8717 from by decide +kernel] at S1
  rw [show sumV (wsum []) = 65535 from by decide +kernel] at S0
  have P := fun w => pseudo_len 1 2 3 (by omega) (by omega) (by omega) w
  have hsz : (⟨(((([] ++ putB 1 4) ++ putB 2 4) ++ putB 33 2) ++ putB 3 2).toArray⟩ : ByteArray).size = 12 := by decide +kernel
  generalize (⟨(((([] ++ putB 1 4) ++ putB 2 4) ++ putB 33 2) ++ putB 3 2).toArray⟩ : ByteArray) = r at *
  replace S1 := Lib.hid S1; replace S0 := Lib.hid S0; replace P := Lib.hid P
  go_enter Try.func39, Try.ntmps39
  go_wp2_with fail
  refine Calls.mono (S1.out _ _ (rd_lit (w := w) (vs := [.string ⟨#[0, 1, 242, 3]⟩, .string ⟨#[244, 245, 246, 247]⟩]) (t := 9))) ?_
  rintro e w1 ⟨rfl, hb1⟩
  go_wp2_with fail
  refine Calls.mono (S0.out _ _ (.inl rfl)) ?_
  rintro e w2 ⟨rfl, hb2⟩
  go_wp2_with fail
  refine Calls.mono (P.out _) ?_
  rintro e w3 ⟨rfl, hb3⟩
  have z3 := Below.size hb3; try simp only [World.size_alloc, World.size_setCell, World.size_drew] at z3
  go_wp2_with fail
  go_ret
  exact Ret.mk rfl (by repeat (first | with_reducible exact Below.refl _ _ | (with_reducible refine Below.al ?_) | (with_reducible refine Below.drew ?_) | (with_reducible refine Below.set ?_ (by first | (simp; done) | omega | (simp; omega))) | (with_reducible refine Below.thru ?_ (by assumption)) | (with_reducible refine Below.chg ?_ (by assumption) (by first | (simp; done) | omega | (simp; omega)))))
end Go.Proofs.Ythodfihdmhkgeaa.Inet
