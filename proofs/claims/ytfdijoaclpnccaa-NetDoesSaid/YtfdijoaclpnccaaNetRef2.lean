/- The walks of the net's answer: Double, Turned, Flip. -/
import Derived.Test.YtfdijoaclpnccaaNetRef
import Derived.WalkSpells
namespace Go.Proofs.Ytfdijoaclpnccaa.Net
set_option linter.unusedSimpArgs false
set_option linter.unusedVariables false
open Go Go.RowKit Go.Proofs.Ytfdijoaclpnccaa Go.Proofs.Ytfdijoaclpnccaa.DelUn
attribute [local irreducible] Calls

theorem NewL.from {w w2 w' : World} {v v' : Value} {l l' : List Un} (hb : Below w.heap.size w w2) (h : NewL w2 v v' l l' w') : NewL w v v' l l' w' := by
  rcases h with ⟨rfl, rfl, hb'⟩ | h
  · exact .inl ⟨rfl, rfl, Below.thru hb hb'⟩
  · exact .inr (by simpa using ((St.zero w).thru hb).add h)
set_option maxRecDepth 100000 in
theorem double_ref_bad (a : Option Addr) (cap : Nat) (l : List Un) (x : Int) (w : World) (hn : l.length ≤ 100000) (hb : l.length = 0 ∨ x < 0) :
    Calls Try.prog 22 #[.slice a l.length cap, .int .i64 x] w (fun e w' => ∃ v', e = .returned (.tuple #[v', .bool false]) ∧ NewL w (.slice a l.length cap) v' l l w') := by
  go_enter Try.func22, Try.ntmps22
  go_wp2_with fail
  refine Calls.mono (place_ref x l.length (by unfold maxLen; omega) _) ?_
  rw [if_pos (by omega)]
  rintro e w1 ⟨rfl, hb1⟩
  clear hb
  go_wp2_with fail
  go_ret2
  exact ⟨_, rfl, .inl ⟨rfl, rfl, (by repeat (first | with_reducible exact Below.refl _ _ | (with_reducible refine Below.al ?_) | (with_reducible refine Below.drew ?_) | (with_reducible refine Below.set ?_ (by first | (simp; done) | omega | (simp; omega))) | (with_reducible refine Below.thru ?_ (by assumption)) | (with_reducible refine Below.chg ?_ (by assumption) (by first | (simp; done) | omega | (simp; omega)))))⟩⟩
set_option maxRecDepth 100000 in
theorem double_ref_ok (a : Option Addr) (cap : Nat) (l : List Un) (x : Int) (u : Un) (w : World) (hn : l.length ≤ 100000) (h : Rd w a (uns l)) (hx : 0 ≤ x) (h0 : 0 < l.length) (hu : l[x.toNat % l.length]? = some u) :
    Calls Try.prog 22 #[.slice a l.length cap, .int .i64 x] w (fun e w' => ∃ v', e = .returned (.tuple #[v', .bool (decide (l.length < 200))]) ∧ NewL w (.slice a l.length cap) v' l (putL l u) w') := by
  have P := fun W => place_ref x l.length (by unfold maxLen; omega) W
  rw [if_neg (by omega)] at P
  obtain ⟨i, hk⟩ : ∃ i, i = x.toNat % l.length := ⟨_, rfl⟩
  rw [← hk] at hu P
  obtain ⟨hkl, hku⟩ := List.getElem?_eq_some_iff.1 hu
  clear hk
  have h' := h
  obtain ⟨b, off, rfl, hb, hc⟩ := uns_at h rfl h0
  obtain ⟨e0, e1, e2, e3⟩ := hc i hkl
  rw [hku] at e0 e1 e2 e3
  have Q := fun W (hb : Below w.heap.size w W) => put_ref (some ⟨b, off, none⟩) cap l u W hn (h'.below hb) (fun e => by cases e)
  unfold valU at Q
  obtain ⟨bb, hbb⟩ : ∃ bb, bb = decide (l.length < 200) := ⟨_, rfl⟩
  rw [← hbb] at Q ⊢
  obtain ⟨l', hl'⟩ : ∃ l', l' = putL l u := ⟨_, rfl⟩
  rw [← hl'] at Q ⊢
  clear hc hku hu h h' hbb hl'
  replace P := Lib.hid P; replace Q := Lib.hid Q
  go_enter Try.func22, Try.ntmps22
  go_wp2_with fail
  refine Calls.mono (P.out _) ?_
  rintro e w1 ⟨rfl, hb1⟩
  obtain ⟨c1, f1⟩ := Below.blk hb1 (b := b) (by first | (simp; done) | omega | (simp; omega))
  go_wp2_with fail
  refine Calls.mono (Q.out _ hb1) ?_
  rintro e w2 ⟨v', rfl, h2⟩
  replace h2 := Lib.hid h2
  go_wp2_with fail
  go_ret2
  exact ⟨_, rfl, h2.out.from hb1⟩

theorem turn8 : ∀ c < 256, ∀ k < 8, (if c / 2 ^ k % 2 = 1 then c - 2 ^ k else c + 2 ^ k) = (UInt8.ofNat c ^^^ UInt8.ofNat (2 ^ k)).toNat := by decide +kernel
theorem pow_le8 {j : Nat} : j < 8 → 2 ^ j ≤ 128 := by
  intro h
  match j, h with
  | 0, _ => decide
  | 1, _ => decide
  | 2, _ => decide
  | 3, _ => decide
  | 4, _ => decide
  | 5, _ => decide
  | 6, _ => decide
  | 7, _ => decide
theorem turn_at {c j T : Nat} (hc : c < 256) (hj : j < 8) (hT : T = 2 ^ j) : (if c / T % 2 = 1 then c - T else c + T) = (UInt8.ofNat c ^^^ UInt8.ofNat (2 ^ j)).toNat := by
  subst hT
  exact turn8 c hc j hj
theorem turn_cat (s : ByteArray) (m : Nat) (h : m / 8 < s.size) : turnS s m = s.extract 0 (m / 8) ++ ⟨#[s[m / 8] ^^^ UInt8.ofNat (2 ^ (m % 8))]⟩ ++ s.extract (m / 8 + 1) s.size := by
  apply ByteArray.ext
  apply Array.toList_inj.1
  have hl : m / 8 < s.data.toList.length := by simpa using h
  have hs : s.data.size = s.size := rfl
  rw [turn_data, List.getElem?_eq_getElem hl, Option.getD_some, List.set_eq_take_append_cons_drop, if_pos hl]
  simp only [ByteArray.data_append, ByteArray.data_extract, Array.toList_append, Array.toList_extract, List.extract_eq_take_drop, List.drop_zero, Nat.sub_zero]
  rw [List.append_assoc]
  congr 1
  show _ = _ :: _
  congr 1
  rw [List.take_of_length_le (by simp)]
  rfl
/-- What the reckoning of one byte comes to. -/
theorem turn_plain (cb : UInt8) (j T : Nat) (hj : j < 8) (hT : T = 2 ^ j) (hT1 : 1 ≤ T) (hT2 : T ≤ 128) : ∃ c d c' : Nat, wrap64 (cb.toNat : Int) = (c : Int) ∧ wrap64 ((c : Int) / (T : Int)) = (d : Int) ∧
    c' < 256 ∧ UInt8.ofNat c' = cb ^^^ UInt8.ofNat (2 ^ j) ∧ ((((d : Int) % 2 == 1) = true ∧ wrap64 ((c : Int) - T) = (c' : Int)) ∨ (((d : Int) % 2 == 1) = false ∧ wrap64 ((c : Int) + T) = (c' : Int))) := by
  have hc256 : cb.toNat < 256 := cb.toNat_lt
  have hx := turn_at hc256 hj hT
  rw [UInt8.ofNat_toNat] at hx
  generalize hxb : cb ^^^ UInt8.ofNat (2 ^ j) = xb at *
  have hc'256 : xb.toNat < 256 := xb.toNat_lt
  have hle : cb.toNat / T % 2 = 1 → T ≤ cb.toNat := fun h => by
    rcases Nat.lt_or_ge cb.toNat T with h' | h'
    · rw [Nat.div_eq_of_lt h'] at h; omega
    · exact h'
  have hd256 : cb.toNat / T < 256 := Nat.lt_of_le_of_lt (Nat.div_le_self _ _) hc256
  have hdd : ((cb.toNat : Int)) / (T : Int) = ((cb.toNat / T : Nat) : Int) := by rw [Int.natCast_ediv]
  refine ⟨cb.toNat, cb.toNat / T, xb.toNat, IntWalk.wrap64_in _ (by omega), ?_, hc'256, UInt8.ofNat_toNat, ?_⟩
  · rw [hdd]
    generalize cb.toNat / T = d at *
    exact IntWalk.wrap64_in _ (by omega)
  clear hdd
  generalize cb.toNat / T = d at *
  generalize cb.toNat = c at *
  generalize xb.toNat = c' at *
  have hm : (d : Int) % 2 = ((d % 2 : Nat) : Int) := by norm_cast
  rw [hm]
  by_cases hb : d % 2 = 1
  · rw [if_pos hb] at hx
    have hle' := hle hb
    exact .inl ⟨by rw [hb]; rfl, by rw [IntWalk.wrap64_in _ (by omega)]; omega⟩
  · rw [if_neg hb] at hx
    have h0 : d % 2 = 0 := by omega
    exact .inr ⟨by rw [h0]; rfl, by rw [IntWalk.wrap64_in _ (by omega)]; omega⟩
set_option maxRecDepth 100000 in
set_option maxHeartbeats 400000 in
theorem turned_ref (s : ByteArray) (k : Nat) (hs : 0 < s.size) (hsz : s.size ≤ 1000) (w : World) :
    Calls Try.prog 77 #[.string s, .int .i64 k] w (Ret w (.string (turnS s (k % (8 * s.size))))) := by
  obtain ⟨m, hm'⟩ : ∃ m : Nat, m = k % (8 * s.size) := ⟨_, rfl⟩
  rw [← hm']
  have hm : (k : Int) % (8 * (s.size : Int)) = (m : Int) := by rw [hm']; push_cast; rfl
  have hm8 : m < 8 * s.size := by rw [hm']; exact Nat.mod_lt _ (by omega)
  have hmi : m / 8 < s.size := by omega
  clear hm'
  obtain ⟨r, hr⟩ : ∃ r, r = m % 8 := ⟨_, rfl⟩
  have hr8 : r < 8 := by omega
  have hrI : (m : Int) % 8 = (r : Int) := by omega
  replace hr := Lib.hid hr
  go_enter Try.func77, Try.ntmps77
  go_wp2_with fail
  go_loopg [6, 7] r (fun g t i wr => ∃ (j : Nat) (T : Nat), j ≤ r ∧ g = r - j ∧ i = .int .i64 j ∧ t = .int .i64 T ∧ Hid (T = 2 ^ j) ∧ 1 ≤ T ∧ T ≤ 128 ∧ Below w.heap.size w wr)
  case atStart => exact ⟨0, 1, by omega, by omega, rfl, rfl, rfl, by omega, by omega, (by repeat (first | with_reducible exact Below.refl _ _ | (with_reducible refine Below.al ?_) | (with_reducible refine Below.drew ?_) | (with_reducible refine Below.set ?_ (by first | (simp; done) | omega | (simp; omega))) | (with_reducible refine Below.thru ?_ (by assumption)) | (with_reducible refine Below.chg ?_ (by assumption) (by first | (simp; done) | omega | (simp; omega)))))⟩
  case round =>
    obtain ⟨j, T, hj, hg, rfl, rfl, hT, hT1, hT2, hbw⟩ := hrel
    by_cases hlt : j < r
    · have q : decide ((j : Int) < (r : Int)) = true := decide_eq_true (by omega)
      have hT' : 2 * T = 2 ^ (j + 1) := by rw [hT.out, Nat.pow_succ, Nat.mul_comm]
      have hle : 2 * T ≤ 128 := by rw [hT']; exact pow_le8 (by omega)
      replace hT' := Lib.hid hT'
      go_wp2_with fail
      go_roundg (r - (j + 1))
      case measure => omega
      case rel => exact ⟨j + 1, 2 * T, by omega, rfl, by go_num, by go_num, hT', by omega, hle, (by repeat (first | with_reducible exact Below.refl _ _ | (with_reducible refine Below.al ?_) | (with_reducible refine Below.drew ?_) | (with_reducible refine Below.set ?_ (by first | (simp; done) | omega | (simp; omega))) | (with_reducible refine Below.thru ?_ (by assumption)) | (with_reducible refine Below.chg ?_ (by assumption) (by first | (simp; done) | omega | (simp; omega)))))⟩
    · obtain rfl : j = r := by omega
      have q : decide ((j : Int) < (j : Int)) = false := decide_eq_false (by omega)
      obtain ⟨c, d, c', w1, w2, hc'256, hxo, hway⟩ := turn_plain (s[m / 8]'hmi) j T hr8 hT.out hT1 hT2
      have hu8 : (c' : Int) % 256 = (c' : Int) := by omega
      replace hxo := Lib.hid hxo
      have H := (St.zero w).thru hbw
      replace H := Lib.hid H
      rcases hway with ⟨hb2, w3⟩ | ⟨hb2, w3⟩
      all_goals
        go_wp2_with fail
        rw [w3, w1, w2]
        clear w1 w2 w3
        refine wp_region_made0 [0, 1, 2, 3, 4, 5, 9, 10, 11, 12, 13] [true, true, true, true, true, true, false, false, false, true, true, true, true, true, false, false] 5 #[true, true, true, true, true, true, false, false, false, true, true, true, true, true, false, false] (by kernel_rfl) rfl (by kernel_rfl) (by kernel_rfl) rfl (by kernel_rfl) (by kernel_rfl) (by intro c a a' w e h; obtain ⟨t, d⟩ := a; obtain ⟨t', d'⟩ := a'; obtain rfl : d = d' := e; exact h) ?_
        intro hs
        simp only [pickB]
        repeat (go_big_quiet_step (fail))
        refine wpQuiet_nil ?_
        clear hs
        intro W hW
        have H' : St w none0 W [] := by rw [hW]; exact H.out
        replace hW := Lib.hid hW
        refine held_one (i := 6) (by kernel_rfl) fun K hK => ?_
        simp only [List.drop_succ_cons, List.drop_zero, List.take_succ_cons, List.take_zero]
        go_wp2_with fail
        have E1 := ((St.zero W).alloc [.int .u8 (c' : Int)] 5).drew
        refine hK _ _ E1.below ?_
        clear hK K
        have hstr := run_byte (P := Try.prog) _ _ _ Try.underlying61 Try.underlying5 Try.underlying9 hc'256 (E1.box 0 rfl)
        have y1 : (s.extract 0 (m / 8)).size = m / 8 := by rw [ByteArray.size_extract]; omega
        have y2 : (⟨#[UInt8.ofNat c']⟩ : ByteArray).size = 1 := rfl
        have y3 : (s.extract (m / 8 + 1) s.size).size ≤ 1000 := by rw [ByteArray.size_extract]; omega
        refine held_one (i := 7) (by kernel_rfl) fun K hK => ?_
        simp only [List.drop_succ_cons, List.drop_zero, List.take_succ_cons, List.take_zero]
        go_wp2_with fail
        refine hK _ _ E1.below ?_
        clear hK K
        refine held_one (i := 8) (by kernel_rfl) fun K hK => ?_
        simp only [List.drop_succ_cons, List.drop_zero, List.take_succ_cons, List.take_zero]
        go_wp2_with fail
        refine hK _ _ E1.below ?_
        clear hK K
        refine held_one (i := 14) (by kernel_rfl) fun K hK => ?_
        simp only [List.drop_succ_cons, List.drop_zero, List.take_succ_cons, List.take_zero]
        go_wp2_with fail
        refine hK _ _ E1.below ?_
        clear hK K
        refine held_one (i := 15) (by kernel_rfl) fun K hK => ?_
        simp only [List.drop_succ_cons, List.drop_zero, List.take_succ_cons, List.take_zero]
        go_wp2_with fail
        refine hK _ _ E1.below ?_
        clear hK K
        refine held_done (by kernel_rfl) ?_
        go_wp2_with fail
        go_ret
        exact (H'.add E1).ret (congrArg Value.string (by rw [turn_cat s m hmi, ← hr.out, ← hxo.out]))

/-- What the answer of 'Flip' makes. -/
def flipL (l : List Un) (i : Nat) (u : Un) (s : ByteArray) : List Un := l.take i ++ { u with dat := s } :: l.drop (i + 1)
theorem flip_set (l : List Un) (i : Nat) (u : Un) (s : ByteArray) (h : i < l.length) : flipL l i u s = l.set i { u with dat := s } := by
  rw [List.set_eq_take_append_cons_drop, if_pos h]
  rfl
set_option maxRecDepth 100000 in
theorem flip_ref_bad (a : Option Addr) (cap : Nat) (l : List Un) (x bit : Int) (w : World) (hn : l.length ≤ 100000) (hb : l.length = 0 ∨ x < 0) :
    Calls Try.prog 24 #[.slice a l.length cap, .int .i64 x, .int .i64 bit] w (fun e w' => ∃ v', e = .returned (.tuple #[v', .bool false]) ∧ NewL w (.slice a l.length cap) v' l l w') := by
  go_enter Try.func24, Try.ntmps24
  go_wp2_with fail
  refine Calls.mono (place_ref x l.length (by unfold maxLen; omega) _) ?_
  rw [if_pos (by omega)]
  rintro e w1 ⟨rfl, hb1⟩
  clear hb
  go_wp2_with fail
  go_ret2
  exact ⟨_, rfl, .inl ⟨rfl, rfl, (by repeat (first | with_reducible exact Below.refl _ _ | (with_reducible refine Below.al ?_) | (with_reducible refine Below.drew ?_) | (with_reducible refine Below.set ?_ (by first | (simp; done) | omega | (simp; omega))) | (with_reducible refine Below.thru ?_ (by assumption)) | (with_reducible refine Below.chg ?_ (by assumption) (by first | (simp; done) | omega | (simp; omega)))))⟩⟩
set_option maxRecDepth 100000 in
theorem flip_ref_no (a : Option Addr) (cap : Nat) (l : List Un) (x bit : Int) (u : Un) (w : World) (hn : l.length ≤ 100000) (h : Rd w a (uns l)) (hx : 0 ≤ x) (h0 : 0 < l.length) (hu : l[x.toNat % l.length]? = some u) (hd : bit < 0 ∨ u.dat = ⟨#[]⟩) :
    Calls Try.prog 24 #[.slice a l.length cap, .int .i64 x, .int .i64 bit] w (fun e w' => ∃ v', e = .returned (.tuple #[v', .bool false]) ∧ NewL w (.slice a l.length cap) v' l l w') := by
  have P := fun W => place_ref x l.length (by unfold maxLen; omega) W
  rw [if_neg (by omega)] at P
  obtain ⟨i, hk⟩ : ∃ i, i = x.toNat % l.length := ⟨_, rfl⟩
  rw [← hk] at hu P 
  obtain ⟨hkl, hku⟩ := List.getElem?_eq_some_iff.1 hu
  clear hk
  obtain ⟨b, off, rfl, hb, hc⟩ := uns_at h rfl h0
  obtain ⟨_, _, _, e3⟩ := hc i hkl
  rw [hku] at e3
  clear hc hku hu h
  replace P := Lib.hid P
  by_cases hbit : bit < 0
  · have q : decide (bit < 0) = true := decide_eq_true hbit
    clear hd
    go_enter Try.func24, Try.ntmps24
    go_wp2_with fail
    refine Calls.mono (P.out _) ?_
    rintro e w1 ⟨rfl, hb1⟩
    go_wp2_with fail
    go_ret2
    exact ⟨_, rfl, .inl ⟨rfl, rfl, (by repeat (first | with_reducible exact Below.refl _ _ | (with_reducible refine Below.al ?_) | (with_reducible refine Below.drew ?_) | (with_reducible refine Below.set ?_ (by first | (simp; done) | omega | (simp; omega))) | (with_reducible refine Below.thru ?_ (by assumption)) | (with_reducible refine Below.chg ?_ (by assumption) (by first | (simp; done) | omega | (simp; omega)))))⟩⟩
  · have q : decide (bit < 0) = false := decide_eq_false hbit
    rw [hd.resolve_left hbit] at e3
    clear hd
    go_enter Try.func24, Try.ntmps24
    go_wp2_with fail
    refine Calls.mono (P.out _) ?_
    rintro e w1 ⟨rfl, hb1⟩
    obtain ⟨c1, f1⟩ := Below.blk hb1 (b := b) (by first | (simp; done) | omega | (simp; omega))
    go_wp2_with fail
    go_ret2
    exact ⟨_, rfl, .inl ⟨rfl, rfl, (by repeat (first | with_reducible exact Below.refl _ _ | (with_reducible refine Below.al ?_) | (with_reducible refine Below.drew ?_) | (with_reducible refine Below.set ?_ (by first | (simp; done) | omega | (simp; omega))) | (with_reducible refine Below.thru ?_ (by assumption)) | (with_reducible refine Below.chg ?_ (by assumption) (by first | (simp; done) | omega | (simp; omega)))))⟩⟩

set_option maxRecDepth 100000 in
set_option maxHeartbeats 1000000 in
theorem flip_ref_ok (a : Option Addr) (cap : Nat) (l : List Un) (x : Int) (k : Nat) (u : Un) (w : World) (hn : l.length ≤ 100000) (hcap : l.length ≤ cap) (hcm : cap ≤ maxLen) (h : Rd w a (uns l)) (hx : 0 ≤ x) (h0 : 0 < l.length) (hu : l[x.toNat % l.length]? = some u) (hd : 0 < u.dat.size) (hd2 : u.dat.size ≤ 1000) :
    Calls Try.prog 24 #[.slice a l.length cap, .int .i64 x, .int .i64 k] w (fun e w' => ∃ v', e = .returned (.tuple #[v', .bool true]) ∧ NewL w (.slice a l.length cap) v' l (flipL l (x.toNat % l.length) u (turnS u.dat (k % (8 * u.dat.size)))) w') := by
  obtain ⟨i0, hi, hz, hz1, hz2⟩ := info_parts el_info
  have P := fun W => place_ref x l.length (by unfold maxLen; omega) W
  rw [if_neg (by omega)] at P
  obtain ⟨i, hk⟩ : ∃ i, i = x.toNat % l.length := ⟨_, rfl⟩
  rw [← hk] at hu P ⊢
  obtain ⟨hkl, hku⟩ := List.getElem?_eq_some_iff.1 hu
  clear hk
  obtain ⟨b, off, rfl, hb, hc⟩ := uns_at h rfl h0
  obtain ⟨e0, e1, e2, e3⟩ := hc i hkl
  rw [hku] at e0 e1 e2 e3
  have R1' : Rd w (some ⟨b, off, none⟩) (uns (l.take i)) := by rw [← uns_take]; exact Rd.pre h _
  have R2' : Rd w (some ⟨b, off + (i + 1) * 4, none⟩) (uns (l.drop (i + 1))) := by
    rw [← uns_drop]
    right
    refine ⟨b, off + (i + 1) * 4, rfl, hb, fun j v hv => ?_⟩
    rw [List.getElem?_drop] at hv
    obtain ⟨b', off', e, _, hc'⟩ := h.cons (uns_ne rfl h0)
    injection e with e
    injection e with e1 e2
    subst e1 e2
    rw [Nat.add_assoc]
    exact hc' _ _ hv
  obtain ⟨u0, u1, u2, u3⟩ := u
  simp only at e0 e1 e2 e3 hd hd2
  have T := fun W => turned_ref u3 k hd hd2 W
  obtain ⟨S', hS'⟩ : ∃ S', S' = turnS u3 (k % (8 * u3.size)) := ⟨_, rfl⟩
  simp only
  rw [← hS'] at T ⊢
  have q4 : u3.toList.isEmpty = false := str_ne hd
  unfold maxLen at hcm
  clear hc hku hu h hS'
  replace P := Lib.hid P; replace T := Lib.hid T; replace R1' := Lib.hid R1'; replace R2' := Lib.hid R2'
  go_enter Try.func24, Try.ntmps24
  go_wp2_with fail
  refine Calls.mono (P.out _) ?_
  rintro e w1 ⟨rfl, hb1⟩
  have hbw : Below w.heap.size w w1 := (by repeat (first | with_reducible exact Below.refl _ _ | (with_reducible refine Below.al ?_) | (with_reducible refine Below.drew ?_) | (with_reducible refine Below.set ?_ (by first | (simp; done) | omega | (simp; omega))) | (with_reducible refine Below.thru ?_ (by assumption)) | (with_reducible refine Below.chg ?_ (by assumption) (by first | (simp; done) | omega | (simp; omega)))))
  obtain ⟨c1, f1⟩ := Below.blk hb1 (b := b) (by first | (simp; done) | omega | (simp; omega))
  have H1 := ((St.zero w).thru hbw).alloc [.int .i64 u0, .int .i64 u1, .int .i64 u2, .string u3] 31
  have zb : b < w1.heap.size := Nat.lt_of_lt_of_le hb hbw.size
  have k0 := (c1 (off + i * 4)).trans e0
  have k1 := (c1 (off + i * 4 + 1)).trans e1
  have k2 := (c1 (off + i * 4 + 2)).trans e2
  have k3 := (c1 (off + i * 4 + 3)).trans e3
  clear P c1 f1 e0 e1 e2
  replace H1 := Lib.hid H1
  go_wp2_with fail
  refine Calls.mono (T.out _) ?_
  rintro e w2 ⟨rfl, hb2⟩
  have H2 := H1.out.thru hb2
  obtain ⟨z2, c2, f2⟩ := H2.box 0 rfl
  have H3' := H2.set 0 rfl 3 (.string S') (by simp)
  obtain ⟨c3, f3⟩ := Below.blk hb2 (b := b) (by first | (simp; done) | omega | (simp; omega))
  have zb2 : b < w2.heap.size := Nat.lt_of_lt_of_le zb (by have := hb2.size; simp at this; omega)
  have ne1 : ¬ b = w1.heap.size := by omega
  have ne2 : ¬ w1.heap.size = b := by omega
  clear H1 H2
  replace H3' := Lib.hid H3'
  by_cases hcj : cap = i + 1
  · have hni : l.length = i + 1 := by omega
    subst hcj
    go_wp2_with fail
    refine wp_region_made0 [1, 2, 3, 5, 8, 9, 10, 11] [false, true, true, true, false, true, false, false, true, true, true, true, false, false, false] 7 #[false, true, true, true, false, true, false, false, true, true, true, true, false, false, false] (by kernel_rfl) rfl (by kernel_rfl) (by kernel_rfl) rfl (by kernel_rfl) (by kernel_rfl) (by intro c a a' w e h; obtain ⟨t, d⟩ := a; obtain ⟨t', d'⟩ := a'; obtain rfl : d = d' := e; exact h) ?_
    intro hs
    simp only [pickB]
    repeat (go_big_quiet_step (fail))
    refine wpQuiet_nil ?_
    clear hs
    intro W hW
    have H3 : St w none0 W [cellA w1.heap.size [.int .i64 u0, .int .i64 u1, .int .i64 u2, .string S']] := by rw [hW]; exact H3'.out
    replace hW := Lib.hid hW
    have Z := (St.zero W).drew
    have R1 := R1'.out.of_st H3
    have R2 := R2'.out.of_st H3
    replace H3 := Lib.hid H3
    refine held_two (i := 0) (j := 6) (by kernel_rfl) (fun K hK => ?_) (fun K hK => ?_) <;> simp only [List.drop_succ_cons, List.drop_zero, List.take_succ_cons, List.take_zero]
    · go_wp2_with fail
      have E1 := St.alloc Z [] 31
      try simp only [World.size_alloc, World.size_drew] at E1
      refine hK _ _ E1.below ?_
      clear hK K
      have E2 := E1.row_empty (size := 4) 0 rfl
      have hr2 := R1.of_st E2
      refine held_two (i := 4) (j := 6) (by kernel_rfl) (fun K hK => ?_) (fun K hK => ?_) <;> simp only [List.drop_succ_cons, List.drop_zero, List.take_succ_cons, List.take_zero]
      · go_wp2_with (at_builtin; (refine wpList_appRd rfl (.tmp 38) (.tmp 41) _ rfl 31 i0 _ 4 40 Try.underlying27 hi hz hz1 hz2 rfl (by omega) 0 _ 0 [] rfl E2 rfl _ i _ (uns (l.take i)) rfl (by simp [uns_len]; try omega) hr2 (fun e => by cases e) (by intro y hy; first | exact uns_one _ y hy | (simp [encU] at hy; rcases hy with rfl | rfl | rfl | rfl <;> rfl)) (by omega) (by omega) ?_; intro wv5 w5 HA; (try simp only [Nat.zero_add, List.nil_append] at HA)))
        refine hK _ _ HA.below ?_
        clear hK K
        refine held_one (i := 6) (by kernel_rfl) fun K hK => ?_
        simp only [List.drop_succ_cons, List.drop_zero, List.take_succ_cons, List.take_zero]
        go_wp2_with fail
        have HB := St.alloc HA [.int .i64 u0, .int .i64 u1, .int .i64 u2, .string S'] 31
        try simp only [World.size_alloc, World.size_drew] at HB
        refine hK _ _ (St.below HB) ?_
        clear hK K
        refine held_one (i := 7) (by kernel_rfl) fun K hK => ?_
        simp only [List.drop_succ_cons, List.drop_zero, List.take_succ_cons, List.take_zero]
        go_wp2_with (at_builtin; (refine wpList_appRd rfl (.tmp 42) (.tmp 44) _ rfl 31 i0 _ 4 40 Try.underlying27 hi hz hz1 hz2 rfl (by omega) 1 _ i (uns (l.take i)) rfl HB rfl _ 1 _ [.int .i64 u0, .int .i64 u1, .int .i64 u2, .string S'] rfl (by simp [uns_len]; try omega) (St.box 0 HB rfl).rd (fun e => by cases e) (by intro y hy; first | exact uns_one _ y hy | (simp [encU] at hy; rcases hy with rfl | rfl | rfl | rfl <;> rfl)) (by omega) (by omega) ?_; intro wv5 w5 HA; (try simp only [Nat.zero_add, List.nil_append] at HA)))
        refine hK _ _ HA.below ?_
        clear hK K
        refine held_one (i := 12) (by kernel_rfl) fun K hK => ?_
        simp only [List.drop_succ_cons, List.drop_zero, List.take_succ_cons, List.take_zero]
        go_wp2_with (at_builtin; (refine wpList_appRd rfl (.tmp 45) (.tmp 49) _ rfl 31 i0 _ 4 40 Try.underlying27 hi hz hz1 hz2 rfl (by omega) 0 _ (i + 1) (uns (l.take i) ++ [.int .i64 u0, .int .i64 u1, .int .i64 u2, .string S']) rfl HA rfl _ _ _ (uns (l.drop (i + 1))) rfl (by simp [uns_len]; try omega) (.inl (by rw [List.drop_of_length_le (by omega)]; rfl)) (fun e => by cases e) (by intro y hy; first | exact uns_one _ y hy | (simp [encU] at hy; rcases hy with rfl | rfl | rfl | rfl <;> rfl)) (by omega) (by omega) ?_; intro wv5 w5 HA; (try simp only [Nat.zero_add, List.nil_append] at HA)))
        refine hK _ _ HA.below ?_
        clear hK K
        refine held_one (i := 13) (by kernel_rfl) fun K hK => ?_
        simp only [List.drop_succ_cons, List.drop_zero, List.take_succ_cons, List.take_zero]
        go_wp2_with fail
        refine hK _ _ HA.below ?_
        clear hK K
        refine held_one (i := 14) (by kernel_rfl) fun K hK => ?_
        simp only [List.drop_succ_cons, List.drop_zero, List.take_succ_cons, List.take_zero]
        go_wp2_with fail
        refine hK _ _ HA.below ?_
        clear hK K
        refine held_done (by kernel_rfl) ?_
        have HD := ((H3.out.add HA).front 0 rfl).drops 1
        replace HD := Lib.hid HD
        clear HA
        go_wp2_with fail
        go_ret2
        refine ⟨_, rfl, .inr ?_⟩
        have hlen : (flipL l i ⟨u0, u1, u2, u3⟩ S').length = i + 1 + 0 := by simp [flipL]; omega
        rw [hlen, show uns (flipL l i ⟨u0, u1, u2, u3⟩ S') = uns (l.take i) ++ [.int .i64 u0, .int .i64 u1, .int .i64 u2, .string S'] ++ uns (l.drop (i + 1)) from by simp [uns, flipL, encU]]
        exact HD.out
      · go_wp2_with fail
        have HB := St.alloc E2 [.int .i64 u0, .int .i64 u1, .int .i64 u2, .string S'] 31
        try simp only [World.size_alloc, World.size_drew] at HB
        refine hK _ _ (St.below HB) ?_
        clear hK K
        have hr3 := R1.of_st HB
        refine held_one (i := 4) (by kernel_rfl) fun K hK => ?_
        simp only [List.drop_succ_cons, List.drop_zero, List.take_succ_cons, List.take_zero]
        go_wp2_with (at_builtin; (refine wpList_appRd rfl (.tmp 38) (.tmp 41) _ rfl 31 i0 _ 4 40 Try.underlying27 hi hz hz1 hz2 rfl (by omega) 1 _ 0 [] rfl HB rfl _ i _ (uns (l.take i)) rfl (by simp [uns_len]; try omega) hr3 (fun e => by cases e) (by intro y hy; first | exact uns_one _ y hy | (simp [encU] at hy; rcases hy with rfl | rfl | rfl | rfl <;> rfl)) (by omega) (by omega) ?_; intro wv5 w5 HA; (try simp only [Nat.zero_add, List.nil_append] at HA)))
        refine hK _ _ HA.below ?_
        clear hK K
        refine held_one (i := 7) (by kernel_rfl) fun K hK => ?_
        simp only [List.drop_succ_cons, List.drop_zero, List.take_succ_cons, List.take_zero]
        go_wp2_with (at_builtin; (refine wpList_appRd rfl (.tmp 42) (.tmp 44) _ rfl 31 i0 _ 4 40 Try.underlying27 hi hz hz1 hz2 rfl (by omega) 0 _ i (uns (l.take i)) rfl HA rfl _ 1 _ [.int .i64 u0, .int .i64 u1, .int .i64 u2, .string S'] rfl (by simp [uns_len]; try omega) (St.box 1 HA rfl).rd (fun e => by cases e) (by intro y hy; first | exact uns_one _ y hy | (simp [encU] at hy; rcases hy with rfl | rfl | rfl | rfl <;> rfl)) (by omega) (by omega) ?_; intro wv5 w5 HA; (try simp only [Nat.zero_add, List.nil_append] at HA)))
        refine hK _ _ HA.below ?_
        clear hK K
        refine held_one (i := 12) (by kernel_rfl) fun K hK => ?_
        simp only [List.drop_succ_cons, List.drop_zero, List.take_succ_cons, List.take_zero]
        go_wp2_with (at_builtin; (refine wpList_appRd rfl (.tmp 45) (.tmp 49) _ rfl 31 i0 _ 4 40 Try.underlying27 hi hz hz1 hz2 rfl (by omega) 0 _ (i + 1) (uns (l.take i) ++ [.int .i64 u0, .int .i64 u1, .int .i64 u2, .string S']) rfl HA rfl _ _ _ (uns (l.drop (i + 1))) rfl (by simp [uns_len]; try omega) (.inl (by rw [List.drop_of_length_le (by omega)]; rfl)) (fun e => by cases e) (by intro y hy; first | exact uns_one _ y hy | (simp [encU] at hy; rcases hy with rfl | rfl | rfl | rfl <;> rfl)) (by omega) (by omega) ?_; intro wv5 w5 HA; (try simp only [Nat.zero_add, List.nil_append] at HA)))
        refine hK _ _ HA.below ?_
        clear hK K
        refine held_one (i := 13) (by kernel_rfl) fun K hK => ?_
        simp only [List.drop_succ_cons, List.drop_zero, List.take_succ_cons, List.take_zero]
        go_wp2_with fail
        refine hK _ _ HA.below ?_
        clear hK K
        refine held_one (i := 14) (by kernel_rfl) fun K hK => ?_
        simp only [List.drop_succ_cons, List.drop_zero, List.take_succ_cons, List.take_zero]
        go_wp2_with fail
        refine hK _ _ HA.below ?_
        clear hK K
        refine held_done (by kernel_rfl) ?_
        have HD := ((H3.out.add HA).front 0 rfl).drops 1
        replace HD := Lib.hid HD
        clear HA
        go_wp2_with fail
        go_ret2
        refine ⟨_, rfl, .inr ?_⟩
        have hlen : (flipL l i ⟨u0, u1, u2, u3⟩ S').length = i + 1 + 0 := by simp [flipL]; omega
        rw [hlen, show uns (flipL l i ⟨u0, u1, u2, u3⟩ S') = uns (l.take i) ++ [.int .i64 u0, .int .i64 u1, .int .i64 u2, .string S'] ++ uns (l.drop (i + 1)) from by simp [uns, flipL, encU]]
        exact HD.out
    · go_wp2_with fail
      have HB := St.alloc Z [.int .i64 u0, .int .i64 u1, .int .i64 u2, .string S'] 31
      try simp only [World.size_alloc, World.size_drew] at HB
      refine hK _ _ (St.below HB) ?_
      clear hK K
      refine held_one (i := 0) (by kernel_rfl) fun K hK => ?_
      simp only [List.drop_succ_cons, List.drop_zero, List.take_succ_cons, List.take_zero]
      go_wp2_with fail
      have E1 := St.alloc HB [] 31
      try simp only [World.size_alloc, World.size_drew] at E1
      refine hK _ _ E1.below ?_
      clear hK K
      have E2 := E1.row_empty (size := 4) 0 rfl
      have hr2 := R1.of_st E2
      refine held_one (i := 4) (by kernel_rfl) fun K hK => ?_
      simp only [List.drop_succ_cons, List.drop_zero, List.take_succ_cons, List.take_zero]
      go_wp2_with (at_builtin; (refine wpList_appRd rfl (.tmp 38) (.tmp 41) _ rfl 31 i0 _ 4 40 Try.underlying27 hi hz hz1 hz2 rfl (by omega) 0 _ 0 [] rfl E2 rfl _ i _ (uns (l.take i)) rfl (by simp [uns_len]; try omega) hr2 (fun e => by cases e) (by intro y hy; first | exact uns_one _ y hy | (simp [encU] at hy; rcases hy with rfl | rfl | rfl | rfl <;> rfl)) (by omega) (by omega) ?_; intro wv5 w5 HA; (try simp only [Nat.zero_add, List.nil_append] at HA)))
      refine hK _ _ HA.below ?_
      clear hK K
      refine held_one (i := 7) (by kernel_rfl) fun K hK => ?_
      simp only [List.drop_succ_cons, List.drop_zero, List.take_succ_cons, List.take_zero]
      go_wp2_with (at_builtin; (refine wpList_appRd rfl (.tmp 42) (.tmp 44) _ rfl 31 i0 _ 4 40 Try.underlying27 hi hz hz1 hz2 rfl (by omega) 0 _ i (uns (l.take i)) rfl HA rfl _ 1 _ [.int .i64 u0, .int .i64 u1, .int .i64 u2, .string S'] rfl (by simp [uns_len]; try omega) (St.box 1 HA rfl).rd (fun e => by cases e) (by intro y hy; first | exact uns_one _ y hy | (simp [encU] at hy; rcases hy with rfl | rfl | rfl | rfl <;> rfl)) (by omega) (by omega) ?_; intro wv5 w5 HA; (try simp only [Nat.zero_add, List.nil_append] at HA)))
      refine hK _ _ HA.below ?_
      clear hK K
      refine held_one (i := 12) (by kernel_rfl) fun K hK => ?_
      simp only [List.drop_succ_cons, List.drop_zero, List.take_succ_cons, List.take_zero]
      go_wp2_with (at_builtin; (refine wpList_appRd rfl (.tmp 45) (.tmp 49) _ rfl 31 i0 _ 4 40 Try.underlying27 hi hz hz1 hz2 rfl (by omega) 0 _ (i + 1) (uns (l.take i) ++ [.int .i64 u0, .int .i64 u1, .int .i64 u2, .string S']) rfl HA rfl _ _ _ (uns (l.drop (i + 1))) rfl (by simp [uns_len]; try omega) (.inl (by rw [List.drop_of_length_le (by omega)]; rfl)) (fun e => by cases e) (by intro y hy; first | exact uns_one _ y hy | (simp [encU] at hy; rcases hy with rfl | rfl | rfl | rfl <;> rfl)) (by omega) (by omega) ?_; intro wv5 w5 HA; (try simp only [Nat.zero_add, List.nil_append] at HA)))
      refine hK _ _ HA.below ?_
      clear hK K
      refine held_one (i := 13) (by kernel_rfl) fun K hK => ?_
      simp only [List.drop_succ_cons, List.drop_zero, List.take_succ_cons, List.take_zero]
      go_wp2_with fail
      refine hK _ _ HA.below ?_
      clear hK K
      refine held_one (i := 14) (by kernel_rfl) fun K hK => ?_
      simp only [List.drop_succ_cons, List.drop_zero, List.take_succ_cons, List.take_zero]
      go_wp2_with fail
      refine hK _ _ HA.below ?_
      clear hK K
      refine held_done (by kernel_rfl) ?_
      have HD := ((H3.out.add HA).front 0 rfl).drops 1
      replace HD := Lib.hid HD
      clear HA
      go_wp2_with fail
      go_ret2
      refine ⟨_, rfl, .inr ?_⟩
      have hlen : (flipL l i ⟨u0, u1, u2, u3⟩ S').length = i + 1 + 0 := by simp [flipL]; omega
      rw [hlen, show uns (flipL l i ⟨u0, u1, u2, u3⟩ S') = uns (l.take i) ++ [.int .i64 u0, .int .i64 u1, .int .i64 u2, .string S'] ++ uns (l.drop (i + 1)) from by simp [uns, flipL, encU]]
      exact HD.out
  · go_wp2_with fail
    refine wp_region_made0 [1, 2, 3, 5, 8, 9, 10, 11] [false, true, true, true, false, true, false, false, true, true, true, true, false, false, false] 7 #[false, true, true, true, false, true, false, false, true, true, true, true, false, false, false] (by kernel_rfl) rfl (by kernel_rfl) (by kernel_rfl) rfl (by kernel_rfl) (by kernel_rfl) (by intro c a a' w e h; obtain ⟨t, d⟩ := a; obtain ⟨t', d'⟩ := a'; obtain rfl : d = d' := e; exact h) ?_
    intro hs
    simp only [pickB]
    repeat (go_big_quiet_step (fail))
    refine wpQuiet_nil ?_
    clear hs
    intro W hW
    have H3 : St w none0 W [cellA w1.heap.size [.int .i64 u0, .int .i64 u1, .int .i64 u2, .string S']] := by rw [hW]; exact H3'.out
    replace hW := Lib.hid hW
    have Z := (St.zero W).drew
    have R1 := R1'.out.of_st H3
    have R2 := R2'.out.of_st H3
    replace H3 := Lib.hid H3
    refine held_two (i := 0) (j := 6) (by kernel_rfl) (fun K hK => ?_) (fun K hK => ?_) <;> simp only [List.drop_succ_cons, List.drop_zero, List.take_succ_cons, List.take_zero]
    · go_wp2_with fail
      have E1 := St.alloc Z [] 31
      try simp only [World.size_alloc, World.size_drew] at E1
      refine hK _ _ E1.below ?_
      clear hK K
      have E2 := E1.row_empty (size := 4) 0 rfl
      have hr2 := R1.of_st E2
      refine held_two (i := 4) (j := 6) (by kernel_rfl) (fun K hK => ?_) (fun K hK => ?_) <;> simp only [List.drop_succ_cons, List.drop_zero, List.take_succ_cons, List.take_zero]
      · go_wp2_with (at_builtin; (refine wpList_appRd rfl (.tmp 38) (.tmp 41) _ rfl 31 i0 _ 4 40 Try.underlying27 hi hz hz1 hz2 rfl (by omega) 0 _ 0 [] rfl E2 rfl _ i _ (uns (l.take i)) rfl (by simp [uns_len]; try omega) hr2 (fun e => by cases e) (by intro y hy; first | exact uns_one _ y hy | (simp [encU] at hy; rcases hy with rfl | rfl | rfl | rfl <;> rfl)) (by omega) (by omega) ?_; intro wv5 w5 HA; (try simp only [Nat.zero_add, List.nil_append] at HA)))
        refine hK _ _ HA.below ?_
        clear hK K
        refine held_one (i := 6) (by kernel_rfl) fun K hK => ?_
        simp only [List.drop_succ_cons, List.drop_zero, List.take_succ_cons, List.take_zero]
        go_wp2_with fail
        have HB := St.alloc HA [.int .i64 u0, .int .i64 u1, .int .i64 u2, .string S'] 31
        try simp only [World.size_alloc, World.size_drew] at HB
        refine hK _ _ (St.below HB) ?_
        clear hK K
        refine held_one (i := 7) (by kernel_rfl) fun K hK => ?_
        simp only [List.drop_succ_cons, List.drop_zero, List.take_succ_cons, List.take_zero]
        go_wp2_with (at_builtin; (refine wpList_appRd rfl (.tmp 42) (.tmp 44) _ rfl 31 i0 _ 4 40 Try.underlying27 hi hz hz1 hz2 rfl (by omega) 1 _ i (uns (l.take i)) rfl HB rfl _ 1 _ [.int .i64 u0, .int .i64 u1, .int .i64 u2, .string S'] rfl (by simp [uns_len]; try omega) (St.box 0 HB rfl).rd (fun e => by cases e) (by intro y hy; first | exact uns_one _ y hy | (simp [encU] at hy; rcases hy with rfl | rfl | rfl | rfl <;> rfl)) (by omega) (by omega) ?_; intro wv5 w5 HA; (try simp only [Nat.zero_add, List.nil_append] at HA)))
        refine hK _ _ HA.below ?_
        clear hK K
        refine held_one (i := 12) (by kernel_rfl) fun K hK => ?_
        simp only [List.drop_succ_cons, List.drop_zero, List.take_succ_cons, List.take_zero]
        go_wp2_with (at_builtin; (refine wpList_appRd rfl (.tmp 45) (.tmp 49) _ rfl 31 i0 _ 4 40 Try.underlying27 hi hz hz1 hz2 rfl (by omega) 0 _ (i + 1) (uns (l.take i) ++ [.int .i64 u0, .int .i64 u1, .int .i64 u2, .string S']) rfl HA rfl _ _ _ (uns (l.drop (i + 1))) rfl (by simp [uns_len]; try omega) (R2.of_st HA) (fun e => by cases e) (by intro y hy; first | exact uns_one _ y hy | (simp [encU] at hy; rcases hy with rfl | rfl | rfl | rfl <;> rfl)) (by omega) (by omega) ?_; intro wv5 w5 HA; (try simp only [Nat.zero_add, List.nil_append] at HA)))
        refine hK _ _ HA.below ?_
        clear hK K
        refine held_one (i := 13) (by kernel_rfl) fun K hK => ?_
        simp only [List.drop_succ_cons, List.drop_zero, List.take_succ_cons, List.take_zero]
        go_wp2_with fail
        refine hK _ _ HA.below ?_
        clear hK K
        refine held_one (i := 14) (by kernel_rfl) fun K hK => ?_
        simp only [List.drop_succ_cons, List.drop_zero, List.take_succ_cons, List.take_zero]
        go_wp2_with fail
        refine hK _ _ HA.below ?_
        clear hK K
        refine held_done (by kernel_rfl) ?_
        have HD := ((H3.out.add HA).front 0 rfl).drops 1
        replace HD := Lib.hid HD
        clear HA
        go_wp2_with fail
        go_ret2
        refine ⟨_, rfl, .inr ?_⟩
        have hlen : (flipL l i ⟨u0, u1, u2, u3⟩ S').length = i + 1 + (l.length - (i + 1)) := by simp [flipL]; omega
        rw [hlen, show uns (flipL l i ⟨u0, u1, u2, u3⟩ S') = uns (l.take i) ++ [.int .i64 u0, .int .i64 u1, .int .i64 u2, .string S'] ++ uns (l.drop (i + 1)) from by simp [uns, flipL, encU]]
        exact HD.out
      · go_wp2_with fail
        have HB := St.alloc E2 [.int .i64 u0, .int .i64 u1, .int .i64 u2, .string S'] 31
        try simp only [World.size_alloc, World.size_drew] at HB
        refine hK _ _ (St.below HB) ?_
        clear hK K
        have hr3 := R1.of_st HB
        refine held_one (i := 4) (by kernel_rfl) fun K hK => ?_
        simp only [List.drop_succ_cons, List.drop_zero, List.take_succ_cons, List.take_zero]
        go_wp2_with (at_builtin; (refine wpList_appRd rfl (.tmp 38) (.tmp 41) _ rfl 31 i0 _ 4 40 Try.underlying27 hi hz hz1 hz2 rfl (by omega) 1 _ 0 [] rfl HB rfl _ i _ (uns (l.take i)) rfl (by simp [uns_len]; try omega) hr3 (fun e => by cases e) (by intro y hy; first | exact uns_one _ y hy | (simp [encU] at hy; rcases hy with rfl | rfl | rfl | rfl <;> rfl)) (by omega) (by omega) ?_; intro wv5 w5 HA; (try simp only [Nat.zero_add, List.nil_append] at HA)))
        refine hK _ _ HA.below ?_
        clear hK K
        refine held_one (i := 7) (by kernel_rfl) fun K hK => ?_
        simp only [List.drop_succ_cons, List.drop_zero, List.take_succ_cons, List.take_zero]
        go_wp2_with (at_builtin; (refine wpList_appRd rfl (.tmp 42) (.tmp 44) _ rfl 31 i0 _ 4 40 Try.underlying27 hi hz hz1 hz2 rfl (by omega) 0 _ i (uns (l.take i)) rfl HA rfl _ 1 _ [.int .i64 u0, .int .i64 u1, .int .i64 u2, .string S'] rfl (by simp [uns_len]; try omega) (St.box 1 HA rfl).rd (fun e => by cases e) (by intro y hy; first | exact uns_one _ y hy | (simp [encU] at hy; rcases hy with rfl | rfl | rfl | rfl <;> rfl)) (by omega) (by omega) ?_; intro wv5 w5 HA; (try simp only [Nat.zero_add, List.nil_append] at HA)))
        refine hK _ _ HA.below ?_
        clear hK K
        refine held_one (i := 12) (by kernel_rfl) fun K hK => ?_
        simp only [List.drop_succ_cons, List.drop_zero, List.take_succ_cons, List.take_zero]
        go_wp2_with (at_builtin; (refine wpList_appRd rfl (.tmp 45) (.tmp 49) _ rfl 31 i0 _ 4 40 Try.underlying27 hi hz hz1 hz2 rfl (by omega) 0 _ (i + 1) (uns (l.take i) ++ [.int .i64 u0, .int .i64 u1, .int .i64 u2, .string S']) rfl HA rfl _ _ _ (uns (l.drop (i + 1))) rfl (by simp [uns_len]; try omega) (R2.of_st HA) (fun e => by cases e) (by intro y hy; first | exact uns_one _ y hy | (simp [encU] at hy; rcases hy with rfl | rfl | rfl | rfl <;> rfl)) (by omega) (by omega) ?_; intro wv5 w5 HA; (try simp only [Nat.zero_add, List.nil_append] at HA)))
        refine hK _ _ HA.below ?_
        clear hK K
        refine held_one (i := 13) (by kernel_rfl) fun K hK => ?_
        simp only [List.drop_succ_cons, List.drop_zero, List.take_succ_cons, List.take_zero]
        go_wp2_with fail
        refine hK _ _ HA.below ?_
        clear hK K
        refine held_one (i := 14) (by kernel_rfl) fun K hK => ?_
        simp only [List.drop_succ_cons, List.drop_zero, List.take_succ_cons, List.take_zero]
        go_wp2_with fail
        refine hK _ _ HA.below ?_
        clear hK K
        refine held_done (by kernel_rfl) ?_
        have HD := ((H3.out.add HA).front 0 rfl).drops 1
        replace HD := Lib.hid HD
        clear HA
        go_wp2_with fail
        go_ret2
        refine ⟨_, rfl, .inr ?_⟩
        have hlen : (flipL l i ⟨u0, u1, u2, u3⟩ S').length = i + 1 + (l.length - (i + 1)) := by simp [flipL]; omega
        rw [hlen, show uns (flipL l i ⟨u0, u1, u2, u3⟩ S') = uns (l.take i) ++ [.int .i64 u0, .int .i64 u1, .int .i64 u2, .string S'] ++ uns (l.drop (i + 1)) from by simp [uns, flipL, encU]]
        exact HD.out
    · go_wp2_with fail
      have HB := St.alloc Z [.int .i64 u0, .int .i64 u1, .int .i64 u2, .string S'] 31
      try simp only [World.size_alloc, World.size_drew] at HB
      refine hK _ _ (St.below HB) ?_
      clear hK K
      refine held_one (i := 0) (by kernel_rfl) fun K hK => ?_
      simp only [List.drop_succ_cons, List.drop_zero, List.take_succ_cons, List.take_zero]
      go_wp2_with fail
      have E1 := St.alloc HB [] 31
      try simp only [World.size_alloc, World.size_drew] at E1
      refine hK _ _ E1.below ?_
      clear hK K
      have E2 := E1.row_empty (size := 4) 0 rfl
      have hr2 := R1.of_st E2
      refine held_one (i := 4) (by kernel_rfl) fun K hK => ?_
      simp only [List.drop_succ_cons, List.drop_zero, List.take_succ_cons, List.take_zero]
      go_wp2_with (at_builtin; (refine wpList_appRd rfl (.tmp 38) (.tmp 41) _ rfl 31 i0 _ 4 40 Try.underlying27 hi hz hz1 hz2 rfl (by omega) 0 _ 0 [] rfl E2 rfl _ i _ (uns (l.take i)) rfl (by simp [uns_len]; try omega) hr2 (fun e => by cases e) (by intro y hy; first | exact uns_one _ y hy | (simp [encU] at hy; rcases hy with rfl | rfl | rfl | rfl <;> rfl)) (by omega) (by omega) ?_; intro wv5 w5 HA; (try simp only [Nat.zero_add, List.nil_append] at HA)))
      refine hK _ _ HA.below ?_
      clear hK K
      refine held_one (i := 7) (by kernel_rfl) fun K hK => ?_
      simp only [List.drop_succ_cons, List.drop_zero, List.take_succ_cons, List.take_zero]
      go_wp2_with (at_builtin; (refine wpList_appRd rfl (.tmp 42) (.tmp 44) _ rfl 31 i0 _ 4 40 Try.underlying27 hi hz hz1 hz2 rfl (by omega) 0 _ i (uns (l.take i)) rfl HA rfl _ 1 _ [.int .i64 u0, .int .i64 u1, .int .i64 u2, .string S'] rfl (by simp [uns_len]; try omega) (St.box 1 HA rfl).rd (fun e => by cases e) (by intro y hy; first | exact uns_one _ y hy | (simp [encU] at hy; rcases hy with rfl | rfl | rfl | rfl <;> rfl)) (by omega) (by omega) ?_; intro wv5 w5 HA; (try simp only [Nat.zero_add, List.nil_append] at HA)))
      refine hK _ _ HA.below ?_
      clear hK K
      refine held_one (i := 12) (by kernel_rfl) fun K hK => ?_
      simp only [List.drop_succ_cons, List.drop_zero, List.take_succ_cons, List.take_zero]
      go_wp2_with (at_builtin; (refine wpList_appRd rfl (.tmp 45) (.tmp 49) _ rfl 31 i0 _ 4 40 Try.underlying27 hi hz hz1 hz2 rfl (by omega) 0 _ (i + 1) (uns (l.take i) ++ [.int .i64 u0, .int .i64 u1, .int .i64 u2, .string S']) rfl HA rfl _ _ _ (uns (l.drop (i + 1))) rfl (by simp [uns_len]; try omega) (R2.of_st HA) (fun e => by cases e) (by intro y hy; first | exact uns_one _ y hy | (simp [encU] at hy; rcases hy with rfl | rfl | rfl | rfl <;> rfl)) (by omega) (by omega) ?_; intro wv5 w5 HA; (try simp only [Nat.zero_add, List.nil_append] at HA)))
      refine hK _ _ HA.below ?_
      clear hK K
      refine held_one (i := 13) (by kernel_rfl) fun K hK => ?_
      simp only [List.drop_succ_cons, List.drop_zero, List.take_succ_cons, List.take_zero]
      go_wp2_with fail
      refine hK _ _ HA.below ?_
      clear hK K
      refine held_one (i := 14) (by kernel_rfl) fun K hK => ?_
      simp only [List.drop_succ_cons, List.drop_zero, List.take_succ_cons, List.take_zero]
      go_wp2_with fail
      refine hK _ _ HA.below ?_
      clear hK K
      refine held_done (by kernel_rfl) ?_
      have HD := ((H3.out.add HA).front 0 rfl).drops 1
      replace HD := Lib.hid HD
      clear HA
      go_wp2_with fail
      go_ret2
      refine ⟨_, rfl, .inr ?_⟩
      have hlen : (flipL l i ⟨u0, u1, u2, u3⟩ S').length = i + 1 + (l.length - (i + 1)) := by simp [flipL]; omega
      rw [hlen, show uns (flipL l i ⟨u0, u1, u2, u3⟩ S') = uns (l.take i) ++ [.int .i64 u0, .int .i64 u1, .int .i64 u2, .string S'] ++ uns (l.drop (i + 1)) from by simp [uns, flipL, encU]]
      exact HD.out
end Go.Proofs.Ytfdijoaclpnccaa.Net
