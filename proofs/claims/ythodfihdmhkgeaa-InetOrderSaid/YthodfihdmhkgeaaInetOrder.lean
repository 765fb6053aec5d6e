/- The walk of the statement InetOrder. -/
import Derived.Test.YthodfihdmhkgeaaInetPut
namespace Go.Proofs.Ythodfihdmhkgeaa.Inet
set_option linter.unusedSimpArgs false
set_option linter.unusedVariables false
open Go Go.RowKit Go.Proofs.Ythodfihdmhkgeaa Go.Proofs.Ythodfihdmhkgeaa.Octets
attribute [local irreducible] Calls

abbrev Pair := UInt8 × UInt8
def encP (x : Pair) : List Value := [byteVal x.1, byteVal x.2]
def strP (x : Pair) : ByteArray := ⟨#[x.1, x.2]⟩
def cat (l : List Pair) : ByteArray := ⟨(l.flatMap fun x => [x.1, x.2]).toArray⟩
theorem cat_snoc (l : List Pair) (x : Pair) : cat l ++ strP x = cat (l ++ [x]) := by
  apply ByteArray.ext
  rw [ByteArray.data_append]
  unfold cat strP
  rw [List.flatMap_append]
  simp
theorem cat_size (l : List Pair) : (cat l).size = 2 * l.length := by
  induction l with
  | nil => rfl
  | cons x l ih =>
    simp only [cat, ByteArray.size, List.flatMap_cons, List.size_toArray, List.length_append, List.length_cons, List.length_nil] at ih ⊢
    omega
theorem cat_data (l : List Pair) : (cat l).data.toList = l.flatMap fun x => [x.1, x.2] := rfl
theorem cat_even (l : List Pair) : (cat l).data.toList.length % 2 = 0 := by
  have := cat_size l
  have e : (cat l).data.toList.length = (cat l).size := by simp
  omega
theorem words_cat_app (a b : List Pair) : words (cat (a ++ b)).data.toList = words (cat a).data.toList + words (cat b).data.toList := by
  rw [← words_app _ _ (cat_even a)]
  simp only [cat_data, List.flatMap_append]
theorem wsum_strs (l : List Pair) : wsum (l.map strP) = words (cat l).data.toList := by
  induction l with
  | nil => rfl
  | cons x l ih =>
    have e : x :: l = [x] ++ l := rfl
    rw [e, words_cat_app, List.map_append, wsum_app, ih]
    rfl

theorem byte_of {w : World} {v : Value} (h : Fits w (.int .u8) [v]) : ∃ b : UInt8, v = byteVal b := by
  obtain ⟨n, rfl, wn⟩ := fits_int h
  have hb := bounds_u8 wn
  refine ⟨UInt8.ofNat n.toNat, ?_⟩
  unfold byteVal
  rw [UInt8.toNat_ofNat', show ((n.toNat % 2 ^ 8 : Nat) : Int) = n from by omega]
theorem pairs_in {w : World} {a : Option Addr} {len cap : Nat} (h : Fits w (.slice 2 (.arr 2 1 (.int .u8))) [.slice a len cap]) :
    len ≤ maxLen ∧ (a = none → len = 0) ∧ ∃ l : List Pair, l.length = len ∧ (∀ x ∈ l, True) ∧ Rd w a (l.flatMap encP) :=
  rows_in (size := 2) encP (by omega) (fun _ => rfl) (fun cs hf hlen => by
    obtain ⟨_, hi⟩ := hf
    match cs, hlen with
    | [u, v], _ =>
      obtain ⟨x, hx⟩ := byte_of (hi 0 (by omega))
      obtain ⟨y, hy⟩ := byte_of (hi 1 (by omega))
      exact ⟨(x, y), by rw [hx, hy]; rfl, trivial⟩) h
theorem pairs_at {w : World} {a : Option Addr} {l : List Pair} (h : Rd w a (l.flatMap encP)) {n : Nat} (hn : l.length = n) (h0 : 0 < n) :
    ∃ b off, a = some ⟨b, off, none⟩ ∧ b < w.heap.size ∧ ∀ i (hi : i < l.length), w.cell? ⟨b, off + i * 2, none⟩ = some (byteVal l[i].1) ∧ w.cell? ⟨b, off + i * 2 + 1, none⟩ = some (byteVal l[i].2) := by
  obtain ⟨b, off, e, hb, hc⟩ := Rd.rows (enc := encP) (size := 2) (fun _ => rfl) (by omega) h hn h0
  exact ⟨b, off, e, hb, fun i hi => ⟨hc i hi 0 _ rfl, hc i hi 1 _ rfl⟩⟩
theorem str_info : (Try.prog.info? 9).map (fun i => (i.zero, i.size, i.bytes)) = some (some (.string ⟨#[]⟩), 1, 16) := by kernel_rfl

theorem strs_app (a b : List ByteArray) : strs (a ++ b) = strs a ++ strs b := by simp [strs]
theorem rot_at (L : List Pair) (k i : Nat) (hk : k < L.length) (hi : i < L.length) : ∃ h : i < (L.drop k ++ L.take k).length, (L.drop k ++ L.take k)[i] = L[(i + k) % L.length]'(Nat.mod_lt _ (by omega)) := by
  refine ⟨by simp; omega, ?_⟩
  rw [List.getElem_append]
  split
  · rename_i h
    rw [List.length_drop] at h
    rw [List.getElem_drop]
    congr 1
    rw [Nat.mod_eq_of_lt (by omega), Nat.add_comm]
  · rename_i h
    rw [List.length_drop] at h
    rw [List.getElem_take]
    congr 1
    rw [List.length_drop]
    rw [show i + k = (i - (L.length - k)) + L.length by omega, Nat.add_mod_right, Nat.mod_eq_of_lt (by omega)]
theorem words_rot (L : List Pair) (k : Nat) : words (cat (L.drop k ++ L.take k)).data.toList = words (cat L).data.toList := by
  rw [words_cat_app, Nat.add_comm, ← words_cat_app, List.take_append_drop]
theorem place5 (at_ : Int) (m : Nat) (h : 1 ≤ m) (hm : m ≤ 1500) : ∃ k : Nat, (IntKind.u64.wrap at_).tmod m = k ∧ k < m := by
  have h0 : 0 ≤ IntKind.u64.wrap at_ := by rw [IntKind.wrap_u64]; omega
  refine ⟨((IntKind.u64.wrap at_).tmod m).toNat, ?_, ?_⟩
  · rw [Int.toNat_of_nonneg (Int.tmod_nonneg _ h0)]
  · have := Int.tmod_lt_of_pos (IntKind.u64.wrap at_) (b := m) (by omega)
    have := Int.tmod_nonneg (m : Int) h0
    omega

set_option maxRecDepth 100000 in
set_option maxHeartbeats 1000000 in
theorem order_walk (a : Option Addr) (n cap : Nat) (s : ByteArray) (ws : s.size ≤ maxLen) (turn : Int) (wt : (Lit.int .i64 turn).wf = true) (w : World) (h0 : Fits w (.slice 2 (.arr 2 1 (.int .u8))) [.slice a n cap]) :
    Calls Try.prog 8 #[.slice a n cap, .string s, .int .i64 turn] w (Ret w (.bool true)) := by
  have bt := bounds_i64 wt
  obtain ⟨hn, _, L, hl, _, hL⟩ := pairs_in h0
  obtain ⟨i0, hi, hz, hz1, hz2⟩ := info_parts str_info
  unfold maxLen at ws hn
  clear h0 wt
  replace hl := Lib.hid hl; replace hL := Lib.hid hL
  go_enter Try.func8, Try.ntmps8
  go_wp2_with fail
  refine Calls.mono (works_law _) ?_
  rintro e w1 ⟨rfl, hb1⟩
  have z1 := Below.size hb1; try simp only [World.size_alloc, World.size_setCell, World.size_drew] at z1
  by_cases h5 : 500 < n
  · have q : decide ((500 : Int) < n) = true := decide_eq_true (by omega)
    go_wp2_with fail
    go_ret
    exact Ret.mk rfl (by repeat (first | with_reducible exact Below.refl _ _ | (with_reducible refine Below.al ?_) | (with_reducible refine Below.drew ?_) | (with_reducible refine Below.set ?_ (by first | (simp; done) | omega | (simp; omega))) | (with_reducible refine Below.thru ?_ (by assumption)) | (with_reducible refine Below.chg ?_ (by assumption) (by first | (simp; done) | omega | (simp; omega)))))
  have q : decide ((500 : Int) < n) = false := decide_eq_false (by omega)
  by_cases h1 : 1000 < s.size
  · have q2 : decide ((1000 : Int) < s.size) = true := decide_eq_true (by omega)
    go_wp2_with fail
    go_ret
    exact Ret.mk rfl (by repeat (first | with_reducible exact Below.refl _ _ | (with_reducible refine Below.al ?_) | (with_reducible refine Below.drew ?_) | (with_reducible refine Below.set ?_ (by first | (simp; done) | omega | (simp; omega))) | (with_reducible refine Below.thru ?_ (by assumption)) | (with_reducible refine Below.chg ?_ (by assumption) (by first | (simp; done) | omega | (simp; omega)))))
  have q2 : decide ((1000 : Int) < s.size) = false := decide_eq_false (by omega)
  have hn5 : n ≤ 500 := by omega
  have hs1 : s.size ≤ 1000 := by omega
  clear h5 h1 hn ws
  have H1 := ((St.zero w).thru hb1).row_nil (size := 1)
  replace H1 := Lib.hid H1
  go_wp2_with fail
  go_loopg [7, 9, 10, 11] n (fun g one parts i _ wr => ∃ j : Nat, j ≤ n ∧ g = n - j ∧ i = .int .i64 j ∧ one = .string (cat (L.take j)) ∧ St w none0 wr [rowA 1 parts j (strs ((L.take j).map strP))])
  case atStart => exact ⟨0, by omega, by omega, rfl, rfl, H1.out⟩
  case round =>
    obtain ⟨sv, hsv⟩ : ∃ v, v = u9 := ⟨_, rfl⟩
    subst hsv
    obtain ⟨j, hj, hg, rfl, rfl, hst⟩ := hrel
    have zw := hst.size
    have hbw := hst.below
    by_cases hlt : j < n
    · have hjl : j < L.length := by have := hl.out; omega
      obtain ⟨b, off, rfl, hb, hc⟩ := pairs_at (hL.out.below hbw) hl.out (by omega)
      obtain ⟨e0, e1⟩ := hc j hjl
      have htk : L.take (j + 1) = L.take j ++ [L[j]] := List.take_succ_eq_append_getElem hjl
      have hct := cat_snoc (L.take j) L[j]
      rw [← htk] at hct
      clear hc
      generalize L[j] = x at *
      have hstr := run_convert_bytes_back (P := Try.prog) wr _ _ _ ⟨b, off + j * 2, none⟩ 2 [x.1, x.2] Try.underlying57 Try.underlying5 Try.underlying9 (fun i hi => by
        match i, hi with
        | 0, _ => exact e0
        | 1, _ => exact e1)
      have hx : (⟨[x.1, x.2].toArray⟩ : ByteArray) = strP x := rfl
      rw [hx, show [x.1, x.2].length = 2 from rfl] at hstr
      clear hx e0 e1
      replace hst := Lib.hid hst
      have z1' : (cat (L.take j)).size = 2 * j := by rw [cat_size, List.length_take]; omega
      have z2' : (strP x).size = 2 := rfl
      replace htk := Lib.hid htk; replace hct := Lib.hid hct
      go_wp2_with (at_builtin; (refine wpList_appS rfl (.tmp 39) (.tmp 41) _ rfl 9 i0 _ 1 16 Try.underlying29 hi hz hz1 hz2 rfl (by omega) 0 sv j (strs ((L.take j).map strP)) rfl hst.out rfl 1 1 [.string (strP x)] rfl rfl (by simp [Value.oneCell']) (by omega) (by omega) ?_; intro wv5 w5 H5; replace H5 := Lib.hid H5))
      go_roundg (n - (j + 1))
      case measure => omega
      case rel => exact ⟨j + 1, by omega, rfl, by go_num, by rw [hct.out], by rw [htk.out, List.map_append, strs_app]; exact H5.out⟩
    · obtain rfl : j = n := by omega
      have hLn := hl.out
      rw [List.take_of_length_le (by omega)] at hst ⊢
      clear hlt hg
      replace hst := Lib.hid hst
      go_upto_if 45 with fail
      go_cut [12] (fun kv wx => ∃ k : Nat, kv = .int .i64 (k : Int) ∧ (0 < j → k < j) ∧ wx = wr)
      case first =>
        by_cases h0 : 0 < j
        · have q3 : decide ((0 : Int) < j) = true := decide_eq_true (by omega)
          obtain ⟨k, hk, hkm⟩ := place5 turn j h0 (by omega)
          go_wp2_with fail
          go_meet
          exact ⟨k, rfl, fun _ => hkm, rfl⟩
        · have q3 : decide ((0 : Int) < j) = false := decide_eq_false (by omega)
          go_wp2_with fail
          go_meet
          exact ⟨0, rfl, fun h => absurd h h0, rfl⟩
      case rest =>
        obtain ⟨k, rfl, hk, rfl⟩ := hcut
        go_wp2_with fail
        go_loopg [8, 13] j (fun g tv i wx => ∃ m : Nat, m ≤ j ∧ g = j - m ∧ i = .int .i64 m ∧ tv = .string (cat ((L.drop k ++ L.take k).take m)) ∧ Below wc.heap.size wc wx)
        case atStart => exact ⟨0, by omega, by omega, rfl, rfl, (by repeat (first | with_reducible exact Below.refl _ _ | (with_reducible refine Below.al ?_) | (with_reducible refine Below.drew ?_) | (with_reducible refine Below.set ?_ (by first | (simp; done) | omega | (simp; omega))) | (with_reducible refine Below.thru ?_ (by assumption)) | (with_reducible refine Below.chg ?_ (by assumption) (by first | (simp; done) | omega | (simp; omega)))))⟩
        case round =>
          obtain ⟨m, hm, hg, rfl, rfl, hbx⟩ := hrel
          have zx := hbx.size
          by_cases hlt : m < j
          · obtain ⟨av, cv, hv, hnv, _, R⟩ := ((hst.out.thru hbx).row 0 rfl).rd (by omega)
            have hk' := hk (by omega)
            obtain ⟨hml, hrot⟩ := rot_at L k m (by omega) (by omega)
            have hlt2 : (m + k) % L.length < (L.map strP).length := by rw [List.length_map]; exact Nat.mod_lt _ (by omega)
            obtain ⟨b3, off3, rfl, hb3, hc⟩ := R.cons (strs_ne (List.length_map ..) (show 0 < L.length by omega))
            have e0 := hc _ _ (strs_at hlt2)
            rw [List.getElem_map] at e0
            have htk : (L.drop k ++ L.take k).take (m + 1) = (L.drop k ++ L.take k).take m ++ [(L.drop k ++ L.take k)[m]] := List.take_succ_eq_append_getElem hml
            rw [hrot] at htk
            have hct := cat_snoc ((L.drop k ++ L.take k).take m) (L[(m + k) % L.length]'(Nat.mod_lt _ (by omega)))
            rw [← htk] at hct
            have z1' : (cat ((L.drop k ++ L.take k).take m)).size = 2 * m := by rw [cat_size, List.length_take]; omega
            generalize L[(m + k) % L.length]'(Nat.mod_lt _ (by omega)) = x at *
            have z2' : (strP x).size = 2 := rfl
            obtain ⟨d, hd⟩ : ∃ d : Nat, d = (m + k) % L.length := ⟨_, rfl⟩
            rw [← hd] at e0
            have hmod : ((m : Int) + k) % j = (d : Int) := by rw [hd, hLn]; norm_cast
            have hdl : d < j := by rw [hd, hLn]; exact Nat.mod_lt _ (by omega)
            subst hv
            clear hc hd hrot hml hlt2 htk R
            replace hct := Lib.hid hct
            go_wp2_with fail
            go_roundg (j - (m + 1))
            case measure => omega
            case rel => exact ⟨m + 1, by omega, rfl, by go_num, by rw [hct.out], hbx⟩
          · obtain rfl : m = j := by omega
            have hrl : (L.drop k ++ L.take k).length = L.length := by simp; omega
            rw [List.take_of_length_le (by omega)]
            clear hlt hg hm
            obtain ⟨R, hR⟩ : ∃ R, R = L.drop k ++ L.take k := ⟨_, rfl⟩
            have hwr := words_rot L k
            rw [← hR] at hwr hrl ⊢
            obtain ⟨A, hA⟩ : ∃ A, A = sumV (((words (cat L).data.toList + words s.data.toList : Nat)) : Int) := ⟨_, rfl⟩
            have hAb := ocI_bd (((words (cat L).data.toList + words s.data.toList : Nat)) : Int)
            have hA0 : 0 ≤ A := by rw [hA]; unfold sumV; omega
            have hA1 : A ≤ 65535 := by rw [hA]; unfold sumV; omega
            have zL : (cat L).size = 2 * m := by rw [cat_size, hLn]
            have zR : (cat R).size = 2 * m := by rw [cat_size, hrl, hLn]
            have S1 := fun (a : Option Addr) w h => sum_any [cat L, s] 2 rfl (by omega) (by simp; omega) a 2 w h
            rw [show wsum [cat L, s] = words (cat L).data.toList + words s.data.toList from by simp [wsum], ← hA] at S1
            have S2 := fun (a : Option Addr) w h => sum_any [cat R, s] 2 rfl (by omega) (by simp; omega) a 2 w h
            rw [show wsum [cat R, s] = words (cat L).data.toList + words s.data.toList from by simp [wsum, hwr], ← hA] at S2
            have S3 := fun (a : Option Addr) w h => sum_any [cat L ++ s] 1 rfl (by omega) (by simp [ByteArray.size_append]; omega) a 1 w h
            rw [show wsum [cat L ++ s] = words (cat L).data.toList + words s.data.toList from by simp only [wsum, List.map_cons, List.map_nil, List.sum_cons, List.sum_nil, ByteArray.data_append, Array.toList_append, words_app _ _ (cat_even L), Nat.add_zero], ← hA] at S3
            have S4 := fun (a : Option Addr) (c : Nat) w h => sum_any (L.map strP ++ [s]) (m + 1) (by simp [hLn]) (by omega) (by
              intro x hx
              rcases List.mem_append.1 hx with hx | hx
              · obtain ⟨y, _, rfl⟩ := List.mem_map.1 hx
                show 2 ≤ _
                omega
              · obtain rfl := List.mem_singleton.1 hx
                omega) a c w h
            rw [show wsum (L.map strP ++ [s]) = words (cat L).data.toList + words s.data.toList from by rw [wsum_app, wsum_strs]; simp [wsum], ← hA] at S4
            have S5 := fun (a : Option Addr) w h => sum_any [cat L, s ++ ⟨#[0]⟩] 2 rfl (by omega) (by simp [ByteArray.size_append]; constructor; omega; show s.size + 1 ≤ _; omega) a 2 w h
            rw [show wsum [cat L, s ++ ⟨#[0]⟩] = words (cat L).data.toList + words s.data.toList from by simp only [wsum, List.map_cons, List.map_nil, List.sum_cons, List.sum_nil, ByteArray.data_append, Array.toList_append, words_pad, Nat.add_zero], ← hA] at S5
            clear hA hAb hwr hR hrl hLn
            have H2 := hst.out.thru hbx
            replace H2 := Lib.hid H2
            replace S1 := Lib.hid S1; replace S2 := Lib.hid S2; replace S3 := Lib.hid S3; replace S4 := Lib.hid S4; replace S5 := Lib.hid S5
            have r1 : decide (A < 0) = false := decide_eq_false (by omega)
            have r2 : decide (65535 < A) = false := decide_eq_false (by omega)
            go_wp2_with fail
            refine Calls.mono (S1.out _ _ (rd_lit (vs := [.string (cat L), .string s]) (t := 9))) ?_
            rintro e w3 ⟨rfl, hb3⟩
            go_wp2_with fail
            refine Calls.mono (S2.out _ _ (rd_lit (vs := [.string (cat R), .string s]) (t := 9))) ?_
            rintro e w4 ⟨rfl, hb4⟩
            go_wp2_with fail
            refine Calls.mono (S3.out _ _ (rd_lit (vs := [.string (cat L ++ s)]) (t := 9))) ?_
            rintro e w5 ⟨rfl, hb5⟩
            have H5 := ((H2.out.skip _).thru hb3).skip (.cells #[.string (cat R), .string s] 9)
            have H5' := ((H5.thru hb4).skip (.cells #[.string (cat L ++ s)] 9)).thru hb5
            replace H5' := Lib.hid H5'
            clear H5
            go_wp2_with (at_builtin; (refine wpList_appS rfl (.tmp 97) (.tmp 99) _ rfl 9 i0 _ 1 16 Try.underlying29 hi hz hz1 hz2 rfl (by omega) 0 sv m (strs (L.map strP)) rfl H5'.out rfl 1 1 [.string s] rfl rfl (by simp [Value.oneCell']) (by omega) (by omega) ?_; intro wv6 w6 H6))
            obtain ⟨a6, c6, rfl, hn6, _, R6⟩ := (H6.row 0 rfl).rd (by omega)
            have R6' : Rd w6 a6 (strs (L.map strP ++ [s])) := by rw [strs_app]; exact R6
            have hb6 := H6.below
            clear R6 H6
            refine Calls.mono (S4.out _ _ _ R6') ?_
            rintro e w7 ⟨rfl, hb7⟩
            have hb7' := Below.thru hb6 hb7
            by_cases hev : s.size % 2 = 0
            · have q4 : decide (((s.size : Int)) % 2 = 0) = true := decide_eq_true (by omega)
              have q5 : ((s.size : Int) % 2 == 0) = true := by simp; omega
              replace hev := Lib.hid hev
              go_wp2_with fail
              go_ret
              exact Ret.mk rfl (by repeat (first | with_reducible exact Below.refl _ _ | (with_reducible refine Below.al ?_) | (with_reducible refine Below.drew ?_) | (with_reducible refine Below.set ?_ (by first | (simp; done) | omega | (simp; omega))) | (with_reducible refine Below.thru ?_ (by assumption)) | (with_reducible refine Below.chg ?_ (by assumption) (by first | (simp; done) | omega | (simp; omega)))))
            · have q4 : decide (((s.size : Int)) % 2 = 0) = false := decide_eq_false (by omega)
              have q5 : ((s.size : Int) % 2 == 0) = false := by simp; omega
              replace hev := Lib.hid hev
              go_wp2_with fail
              refine Calls.mono (S5.out _ _ (rd_lit (vs := [.string (cat L), .string (s ++ ⟨#[0]⟩)]) (t := 9))) ?_
              rintro e w8 ⟨rfl, hb8⟩
              go_wp2_with fail
              go_ret
              exact Ret.mk rfl (by repeat (first | with_reducible exact Below.refl _ _ | (with_reducible refine Below.al ?_) | (with_reducible refine Below.drew ?_) | (with_reducible refine Below.set ?_ (by first | (simp; done) | omega | (simp; omega))) | (with_reducible refine Below.thru ?_ (by assumption)) | (with_reducible refine Below.chg ?_ (by assumption) (by first | (simp; done) | omega | (simp; omega)))))
end Go.Proofs.Ythodfihdmhkgeaa.Inet
