/- The walks of the package net: Flip. -/
import Derived.Test.YtfdijoaclpnccaaNetClear
namespace Go.Proofs.Ytfdijoaclpnccaa.Net
set_option linter.unusedSimpArgs false
set_option linter.unusedVariables false
open Go Go.RowKit Go.Proofs.Ytfdijoaclpnccaa Go.Proofs.Ytfdijoaclpnccaa.DelUn
attribute [local irreducible] Calls

theorem flip_none (x bit : Int) (w : World) : Calls Try.prog 25 #[.pointer none, .int .i64 x, .int .i64 bit] w (Ret w (.bool false)) := by
  have P := place_none x w
  replace P := Lib.hid P
  go_enter Try.func25, Try.ntmps25
  go_wp2_with fail
  refine Calls.mono (P.out) ?_
  rintro e w1 ⟨rfl, hb1⟩
  have z1 := Below.size hb1; try simp only [World.size_alloc, World.size_setCell, World.size_drew] at z1
  go_wp2_with fail
  go_ret
  exact Ret.mk rfl (by repeat (first | with_reducible exact Below.refl _ _ | (with_reducible refine Below.al ?_) | (with_reducible refine Below.drew ?_) | (with_reducible refine Below.set ?_ (by first | (simp; done) | omega | (simp; omega))) | (with_reducible refine Below.thru ?_ (by assumption)) | (with_reducible refine Below.chg ?_ (by assumption) (by first | (simp; done) | omega | (simp; omega)))))
set_option maxRecDepth 100000 in
theorem flip_bad (d : Nat) (l : List Un) (x bit : Int) (w : World) (S : Nat → Prop) (h : (netA d l).holds w S) (hb : l.length = 0 ∨ x < 0) :
    Calls Try.prog 25 #[.pointer (some ⟨d, 0, none⟩), .int .i64 x, .int .i64 bit] w (Ret w (.bool false)) := by
  have P := place_bad d l x w S h hb
  clear h hb
  replace P := Lib.hid P
  go_enter Try.func25, Try.ntmps25
  go_wp2_with fail
  refine Calls.mono (P.out) ?_
  rintro e w1 ⟨rfl, hb1⟩
  have z1 := Below.size hb1; try simp only [World.size_alloc, World.size_setCell, World.size_drew] at z1
  go_wp2_with fail
  go_ret
  exact Ret.mk rfl (by repeat (first | with_reducible exact Below.refl _ _ | (with_reducible refine Below.al ?_) | (with_reducible refine Below.drew ?_) | (with_reducible refine Below.set ?_ (by first | (simp; done) | omega | (simp; omega))) | (with_reducible refine Below.thru ?_ (by assumption)) | (with_reducible refine Below.chg ?_ (by assumption) (by first | (simp; done) | omega | (simp; omega)))))
set_option maxRecDepth 100000 in
theorem flip_neg (d : Nat) (l : List Un) (x bit : Int) (w : World) (S : Nat → Prop) (h : (netA d l).holds w S) (hx : 0 ≤ x) (h0 : 0 < l.length) (hb : bit < 0) :
    Calls Try.prog 25 #[.pointer (some ⟨d, 0, none⟩), .int .i64 x, .int .i64 bit] w (Ret w (.bool false)) := by
  have P := place_ok d l x w S h hx h0
  have q : decide (bit < 0) = true := decide_eq_true hb
  obtain ⟨k, hk⟩ : ∃ k, k = x.toNat % l.length := ⟨_, rfl⟩
  rw [← hk] at P
  clear h hb hk
  replace P := Lib.hid P
  go_enter Try.func25, Try.ntmps25
  go_wp2_with fail
  refine Calls.mono (P.out) ?_
  rintro e w1 ⟨rfl, hb1⟩
  have z1 := Below.size hb1; try simp only [World.size_alloc, World.size_setCell, World.size_drew] at z1
  go_wp2_with fail
  go_ret
  exact Ret.mk rfl (by repeat (first | with_reducible exact Below.refl _ _ | (with_reducible refine Below.al ?_) | (with_reducible refine Below.drew ?_) | (with_reducible refine Below.set ?_ (by first | (simp; done) | omega | (simp; omega))) | (with_reducible refine Below.thru ?_ (by assumption)) | (with_reducible refine Below.chg ?_ (by assumption) (by first | (simp; done) | omega | (simp; omega)))))

set_option maxRecDepth 100000 in
theorem flip_empty (d : Nat) (l : List Un) (x bit : Int) (u : Un) (w : World) (S : Nat → Prop) (h : (netA d l).holds w S) (hx : 0 ≤ x) (h0 : 0 < l.length) (hu : l[x.toNat % l.length]? = some u) (hbit : 0 ≤ bit) (hd : u.dat = ⟨#[]⟩) :
    Calls Try.prog 25 #[.pointer (some ⟨d, 0, none⟩), .int .i64 x, .int .i64 bit] w (Ret w (.bool false)) := by
  have P := place_ok d l x w S h hx h0
  obtain ⟨k, hk⟩ : ∃ k, k = x.toNat % l.length := ⟨_, rfl⟩
  rw [← hk] at P hu 
  obtain ⟨hkl, hku⟩ := List.getElem?_eq_some_iff.1 hu
  have q : decide (bit < 0) = false := decide_eq_false (by omega)
  have H0 : St w S w [netA d l] := St.start (Sep.one h)
  clear h hk
  replace P := Lib.hid P; replace H0 := Lib.hid H0
  go_enter Try.func25, Try.ntmps25
  go_wp2_with fail
  refine Calls.mono P.out ?_
  rintro e w1 ⟨rfl, hb1⟩
  obtain ⟨v, H2⟩ := net_parts (H0.out.thru hb1)
  obtain ⟨a, cap, hv, hn, hl, R⟩ := (H2.row 1 rfl).rd (by omega)
  obtain ⟨g, o, cap', hv'⟩ := row_some (H2.row 1 rfl) h0
  rw [hv] at hv'
  injection hv' with hv1 hv2 hv3
  subst hv1
  rw [hv] at H2
  clear hv
  obtain ⟨b, off, eb, hb, hc⟩ := Rd.rows enc_len (by omega) R rfl h0
  obtain ⟨rfl, rfl⟩ : g = b ∧ o = off := by injection eb with e; injection e with e1 e2; exact ⟨e1, e2⟩
  have e := hc k hkl
  rw [hku] at e
  obtain ⟨u0, u1, u2, u3⟩ := u
  have e3 := e 3 _ rfl
  obtain ⟨z2, k2, f2⟩ := H2.box 0 rfl
  replace hku := Lib.hid hku
  clear hc e R hl eb hv2 hv3 P H0
  unfold maxLen at hn
  simp only at hd
  subst hd
  clear hu hku
  generalize l.length = n at *
  replace H2 := Lib.hid H2
  go_wp2_with fail
  go_ret
  exact Ret.mk rfl (by repeat (first | with_reducible exact Below.refl _ _ | (with_reducible refine Below.al ?_) | (with_reducible refine Below.drew ?_) | (with_reducible refine Below.set ?_ (by first | (simp; done) | omega | (simp; omega))) | (with_reducible refine Below.thru ?_ (by assumption)) | (with_reducible refine Below.chg ?_ (by assumption) (by first | (simp; done) | omega | (simp; omega)))))

theorem str_ne {s : ByteArray} (h : 0 < s.size) : s.toList.isEmpty = false := by
  rw [ByteArray.toList_eq]
  cases hq : s.data.toList with
  | nil =>
    have : s.data.toList.length = s.size := by simp
    rw [hq] at this
    simp at this
    omega
  | cons a l => rfl
def turnS (s : ByteArray) (m : Nat) : ByteArray := ⟨(s.data.toList.set (m / 8) ((s.data.toList[m / 8]?.getD 0) ^^^ UInt8.ofNat (2 ^ (m % 8)))).toArray⟩
theorem xor8 : ∀ c < 256, ∀ k < 8, bits .xor .u8 ((c : Nat) : Int) ((2 ^ k : Nat) : Int) = (((UInt8.ofNat c ^^^ UInt8.ofNat (2 ^ k)).toNat : Nat) : Int) := by decide +kernel
theorem uns_set (l : List Un) (k : Nat) (u0 u1 u2 : Int) (u3 s : ByteArray) (h : k < l.length) (hu : l[k] = ⟨u0, u1, u2, u3⟩) :
    (uns l).take (k * 4 + 3) ++ [.string s] ++ (uns l).drop (k * 4 + 3 + [Value.string s].length) = uns (l.set k ⟨u0, u1, u2, s⟩) := by
  have e1 : l = l.take k ++ ⟨u0, u1, u2, u3⟩ :: l.drop (k + 1) := by rw [← hu, List.getElem_cons_drop, List.take_append_drop]
  have e2 : uns l = uns (l.take k) ++ ([.int .i64 u0, .int .i64 u1, .int .i64 u2, .string u3] ++ uns (l.drop (k + 1))) := by
    conv => lhs; rw [e1]
    simp [uns, encU]
  have e3 : uns (l.set k ⟨u0, u1, u2, s⟩) = uns (l.take k) ++ ([.int .i64 u0, .int .i64 u1, .int .i64 u2, .string s] ++ uns (l.drop (k + 1))) := by
    rw [List.set_eq_take_append_cons_drop, if_pos h]
    simp [uns, encU]
  have hA : (uns (l.take k)).length = k * 4 := by rw [uns_len, List.length_take, Nat.min_eq_left (by omega)]
  rw [e3, e2]
  generalize uns (l.take k) = A at hA ⊢
  have hone : [Value.string s].length = 1 := rfl
  rw [hone, List.take_append, List.drop_append, List.take_of_length_le (show A.length ≤ k * 4 + 3 by omega), List.drop_of_length_le (show A.length ≤ k * 4 + 3 + 1 by omega), hA, show k * 4 + 3 - k * 4 = 3 by omega, show k * 4 + 3 + 1 - k * 4 = 4 by omega]
  simp
set_option maxRecDepth 100000 in
theorem flip_ok (d : Nat) (l : List Un) (x bit : Int) (u : Un) (w : World) (S : Nat → Prop) (h : (netA d l).holds w S) (hx : 0 ≤ x) (h0 : 0 < l.length) (hu : l[x.toNat % l.length]? = some u) (hbit : 0 ≤ bit) (hd : 0 < u.dat.size) (hd2 : u.dat.size ≤ 1000) :
    Calls Try.prog 25 #[.pointer (some ⟨d, 0, none⟩), .int .i64 x, .int .i64 bit] w (Fin w S (.bool true) [netA d (l.set (x.toNat % l.length) { u with dat := turnS u.dat (bit.toNat % (8 * u.dat.size)) })]) := by
  have P := place_ok d l x w S h hx h0
  obtain ⟨k, hk⟩ : ∃ k, k = x.toNat % l.length := ⟨_, rfl⟩
  rw [← hk] at P hu ⊢
  obtain ⟨hkl, hku⟩ := List.getElem?_eq_some_iff.1 hu
  have q : decide (bit < 0) = false := decide_eq_false (by omega)
  have H0 : St w S w [netA d l] := St.start (Sep.one h)
  clear h hk
  replace P := Lib.hid P; replace H0 := Lib.hid H0
  go_enter Try.func25, Try.ntmps25
  go_wp2_with fail
  refine Calls.mono P.out ?_
  rintro e w1 ⟨rfl, hb1⟩
  obtain ⟨v, H2⟩ := net_parts (H0.out.thru hb1)
  obtain ⟨a, cap, hv, hn, hl, R⟩ := (H2.row 1 rfl).rd (by omega)
  obtain ⟨g, o, cap', hv'⟩ := row_some (H2.row 1 rfl) h0
  rw [hv] at hv'
  injection hv' with hv1 hv2 hv3
  subst hv1
  rw [hv] at H2
  clear hv
  obtain ⟨b, off, eb, hb, hc⟩ := Rd.rows enc_len (by omega) R rfl h0
  obtain ⟨rfl, rfl⟩ : g = b ∧ o = off := by injection eb with e; injection e with e1 e2; exact ⟨e1, e2⟩
  have e := hc k hkl
  rw [hku] at e
  obtain ⟨u0, u1, u2, u3⟩ := u
  have e3 := e 3 _ rfl
  obtain ⟨z2, k2, f2⟩ := H2.box 0 rfl
  replace hku := Lib.hid hku
  clear hc e R hl eb hv2 hv3 P H0
  unfold maxLen at hn
  simp only at hd hd2
  have q4 : u3.toList.isEmpty = false := str_ne hd
  have hE : (encU ⟨u0, u1, u2, u3⟩) = [.int .i64 u0, .int .i64 u1, .int .i64 u2, .string u3] := rfl
  obtain ⟨m, hm'⟩ : ∃ m : Nat, m = bit.toNat % (8 * u3.size) := ⟨_, rfl⟩
  rw [← hm']
  have hm : bit % (8 * (u3.size : Int)) = (m : Int) := by
    rw [hm']; push_cast; rw [Int.toNat_of_nonneg hbit]
  have hm8 : m < 8 * u3.size := by rw [hm']; exact Nat.mod_lt _ (by omega)
  have hmi : m / 8 < u3.size := by omega
  replace hm' := Lib.hid hm'
  replace H2 := Lib.hid H2
  go_wp2_with (refine wpList_bytes rfl (.tmp 41) _ _ _ rfl Try.underlying9 Try.underlying61 Try.underlying5 u3 rfl (by unfold maxLen; omega) ?_; intro v5 w5 hown hb5 hblk; obtain ⟨g6, o6, c6, rfl⟩ := row_some hown hd)
  have hblk' : g6 = w1.heap.size := by simpa [Value.ownBlock] using hblk
  subst hblk'
  have H5 := H2.out.row_new hb5 hown
  have hl0 : u3.data.toList.length = u3.size := by simp
  have hmi' : m / 8 < u3.data.toList.length := by omega
  have hx : w5.cell? ⟨w1.heap.size, o6 + m / 8, none⟩ = some (byteVal (u3.data.toList[m / 8]'hmi')) := by
    obtain ⟨a9, cap9, e9, _, _, R9⟩ := (H5.row 0 rfl).rd (by omega)
    injection e9 with e91
    rw [← e91] at R9
    obtain ⟨b9, o9, f9, _, hc9⟩ := R9.cons (fun e => by have h9 := congrArg List.length e; rw [List.length_map, hl0] at h9; simp only [List.length_nil] at h9; omega)
    injection f9 with f91
    injection f91 with f92 f93
    subst f92 f93
    exact hc9 (m / 8) _ (by rw [List.getElem?_map, List.getElem?_eq_getElem hmi']; rfl)
  have hfz : w5.frozen? ⟨w1.heap.size, o6 + m / 8, none⟩ = false := by
    rcases hown.2 with ⟨e, _⟩ | ⟨_, _, _, e, _, _, hnc, _, _, hr⟩
    · cases e
    · injection e with e1 e2 e3
      injection e1 with e1
      injection e1 with e4 e5
      subst e4 e5
      exact (hr (m / 8) (by omega)).2
  obtain ⟨c, hc⟩ : ∃ c : UInt8, c = u3.data.toList[m / 8]'hmi' := ⟨_, rfl⟩
  rw [← hc] at hx
  unfold byteVal at hx
  have hlt6 : w1.heap.size < w5.heap.size := (hown.lt w1.heap.size rfl).2
  have hxor := xor8 c.toNat c.toNat_lt (m % 8) (Nat.mod_lt _ (by omega))
  clear hblk
  replace H5 := Lib.hid H5; replace hown := Lib.hid hown; replace hc := Lib.hid hc; replace hE := Lib.hid hE; replace hu := Lib.hid hu; replace hb5 := Lib.hid hb5
  refine wp_region_near_tail 10 (by kernel_rfl) (by kernel_rfl) ?_
  intro hs
  simp only [List.take_succ_cons, List.take_zero, List.drop_succ_cons, List.drop_zero]
  repeat (go_big_quiet_step (fail))
  refine wpQuiet_nil ?_
  clear hs
  intro w6 hb6
  have z6 := hb6.size
  have y1 : w1.heap.size < w6.heap.size := Nat.lt_of_lt_of_le hlt6 z6
  have hx6 : w6.cell? ⟨w1.heap.size, o6 + m / 8, none⟩ = some (.int .u8 (c.toNat : Int)) := by rw [(Below.blk hb6 hlt6).1, hx]
  have hf6 : w6.frozen? ⟨w1.heap.size, o6 + m / 8, none⟩ = false := by rw [(Below.blk hb6 hlt6).2, hfz]
  have H6 := H5.out.thru hb6
  have hpw : (2 : Int) ^ (m % 8) % 256 = ((2 ^ (m % 8) : Nat) : Int) := by
    have h8 : m % 8 < 8 := Nat.mod_lt _ (by omega)
    generalize m % 8 = j at h8 ⊢
    match j, h8 with
    | 0, _ => rfl
    | 1, _ => rfl
    | 2, _ => rfl
    | 3, _ => rfl
    | 4, _ => rfl
    | 5, _ => rfl
    | 6, _ => rfl
    | 7, _ => rfl
  have hval : bits .xor .u8 (c.toNat : Int) (2 ^ (m % 8) % 256) = ((c ^^^ UInt8.ofNat (2 ^ (m % 8))).toNat : Int) := by
    rw [hpw, hxor]; simp
  obtain ⟨c', hc'⟩ : ∃ c', c' = c ^^^ UInt8.ofNat (2 ^ (m % 8)) := ⟨_, rfl⟩
  rw [← hc'] at hval
  have H7 := H6.over (k := 0) (p := m / 8) (news := [.int .u8 (c'.toNat : Int)]) rfl (by simp; omega)
  have H7' : St w S (w6.setCell ⟨w1.heap.size, o6 + m / 8, none⟩ (.int .u8 (c'.toNat : Int))) _ := H7
  clear H7 H6 hpw hxor hx hfz
  replace H7' := Lib.hid H7'; replace hc' := Lib.hid hc'
  go_wp2_with fail
  rw [hval]
  obtain ⟨w7, hw7⟩ : ∃ w7, w7 = w6.setCell ⟨w1.heap.size, o6 + m / 8, none⟩ (.int .u8 (c'.toNat : Int)) := ⟨_, rfl⟩
  have H8 := H7'.out
  rw [← hw7] at H8 ⊢
  have hov : (u3.data.toList.map byteVal).take (m / 8) ++ [.int .u8 (c'.toNat : Int)] ++ (u3.data.toList.map byteVal).drop (m / 8 + [Value.int .u8 (c'.toNat : Int)].length) = (u3.data.toList.set (m / 8) c').map byteVal := by
    rw [List.set_eq_take_append_cons_drop, if_pos hmi']
    simp [byteVal]
  rw [hov] at H8
  have hturn : (⟨(u3.data.toList.set (m / 8) c').toArray⟩ : ByteArray) = turnS u3 m := by
    unfold turnS
    rw [List.getElem?_eq_getElem hmi', Option.getD_some, ← hc.out, ← hc'.out]
  have hstr := fun s : Near w7.heap.size w7 => run_str (P := Try.prog) (w := s.it) 0 _ _ _ Try.underlying61 Try.underlying5 Try.underlying9 _ (u3.data.toList.set (m / 8) c') u3.size (by simp) ((H8.row 0 rfl).below s.near)
  rw [hturn] at hstr
  obtain ⟨S7, hS7⟩ : ∃ x, x = turnS u3 m := ⟨_, rfl⟩
  rw [← hS7] at hstr
  obtain ⟨zd, kd, fd⟩ := H8.box 1 rfl
  have hgl : g < w7.heap.size := ((H8.row 2 rfl).lt g rfl).2
  have hfr : ∀ w', St w S w' _ → w'.frozen? ⟨g, o + k * 4 + 3, none⟩ = false ∧ (w'.cell? ⟨g, o + k * 4 + 3, none⟩).isSome = true := fun w' (H : St w S w' [rowA 1 (.slice (some ⟨w1.heap.size, o6, none⟩) u3.size c6) u3.size ((u3.data.toList.set (m / 8) c').map byteVal), cellA d [.slice (some ⟨g, o, none⟩) l.length cap], rowA 4 (.slice (some ⟨g, o, none⟩) l.length cap) l.length (uns l)]) => by
    rcases (H.row 2 rfl).2 with ⟨e, _⟩ | ⟨_, _, _, e, _, _, hnc, _, _, hr⟩
    · cases e
    · injection e with e1 e2 e3
      injection e1 with e1
      injection e1 with e4 e5
      subst e4 e5 e3
      have := hr (k * 4 + 3) (by omega)
      exact ⟨by rw [Nat.add_assoc]; exact this.2, by rw [Nat.add_assoc]; exact this.1⟩
  replace hw7 := Lib.hid hw7
  replace hS7 := Lib.hid hS7
  replace H8 := Lib.hid H8; replace hov := Lib.hid hov; replace hturn := Lib.hid hturn; replace hfr := Lib.hid hfr
  clear hx6 hf6 hval hb6
  refine wp_region_near_tail 9 (by kernel_rfl) (by kernel_rfl) ?_
  intro hs
  simp only [List.take_succ_cons, List.take_zero, List.drop_succ_cons, List.drop_zero]
  repeat (go_big_quiet_step (fail))
  refine wpQuiet_nil ?_
  clear hs
  intro w8 hb8
  have H9 := H8.out.thru hb8
  obtain ⟨fr8, ce8⟩ := hfr.out _ H9
  have hgl8 : g < w8.heap.size := Nat.lt_of_lt_of_le hgl hb8.size
  obtain ⟨ov, hov8⟩ := Option.isSome_iff_exists.1 ce8
  replace H9 := Lib.hid H9
  go_wp2_with fail
  go_ret
  have H10 := H9.out.over (k := 2) (p := k * 4 + 3) (news := [.string S7]) rfl (by rw [uns_len]; simp; omega)
  rw [uns_set l k u0 u1 u2 u3 S7 hkl hku.out] at H10
  have H11 : St w S (w8.setCell ⟨g, o + k * 4 + 3, none⟩ (.string S7)) [rowA 4 (.slice (some ⟨g, o, none⟩) l.length cap) l.length (uns (l.set k ⟨u0, u1, u2, S7⟩)), rowA 1 (.slice (some ⟨w1.heap.size, o6, none⟩) u3.size c6) u3.size ((u3.data.toList.set (m / 8) c').map byteVal), cellA d [.slice (some ⟨g, o, none⟩) l.length cap]] := H10
  refine ⟨by rfl, ?_⟩
  rw [← hm'.out, ← hS7.out]
  refine net_shut (v := .slice (some ⟨g, o, none⟩) l.length cap) (r := []) ?_
  rw [List.length_set]
  exact (H11.drop 1 rfl).front 1 rfl
end Go.Proofs.Ytfdijoaclpnccaa.Net
