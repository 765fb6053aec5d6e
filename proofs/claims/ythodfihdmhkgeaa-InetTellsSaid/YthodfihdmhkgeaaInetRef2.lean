/- The walks of Covered, of the document's Sum and Patch, and of 'great'. -/
import Derived.Test.YthodfihdmhkgeaaInetRef
namespace Go.Proofs.Ythodfihdmhkgeaa.Inet
set_option linter.unusedSimpArgs false
set_option linter.unusedVariables false
open Go Go.RowKit Go.Proofs.Ythodfihdmhkgeaa Go.Proofs.Ythodfihdmhkgeaa.Octets
attribute [local irreducible] Calls

theorem pseudo_any (a b c : Int) (ha : -9223372036854775808 ≤ a ∧ a ≤ 9223372036854775807) (hb : -9223372036854775808 ≤ b ∧ b ≤ 9223372036854775807) (hc : -9223372036854775808 ≤ c ∧ c ≤ 9223372036854775807) (w : World) :
    Calls Try.prog 56 #[.int .i64 a, .int .i64 b, .int .i64 c] w (Ret w (.string (psV a b c))) := pseudo_len a b c ha hb hc w

theorem ext_all (d : ByteArray) : d.extract 0 d.size = d := by
  apply ByteArray.ext
  rw [ByteArray.data_extract]
  exact Array.extract_size
theorem covered_any (h d : ByteArray) (c : Int) (hh : h.size ≤ 4000) (hd : d.size ≤ 4000) (hc : -9223372036854775808 ≤ c ∧ c ≤ 9223372036854775807) (w : World) :
    Calls Try.prog 53 #[.string h, .string d, .int .i64 c] w (Ret w (.tuple #[.string (covV h d c), .bool (covB d c)])) := by
  unfold covV covB
  obtain ⟨hc0, hc1⟩ := hc
  by_cases c1 : c < 0
  · rw [if_pos (Or.inl c1), if_pos (Or.inl c1)]
    have q1 : decide (c < 0) = true := decide_eq_true c1
    go_enter Try.func53, Try.ntmps53
    go_wp2_with fail
    go_ret2
    exact Ret.mk rfl (by repeat (first | with_reducible exact Below.refl _ _ | (with_reducible refine Below.al ?_) | (with_reducible refine Below.drew ?_) | (with_reducible refine Below.set ?_ (by first | (simp; done) | omega | (simp; omega))) | (with_reducible refine Below.thru ?_ (by assumption)) | (with_reducible refine Below.chg ?_ (by assumption) (by first | (simp; done) | omega | (simp; omega)))))
  have q1 : decide (c < 0) = false := decide_eq_false c1
  by_cases c2 : 15 < c
  · rw [if_pos (Or.inr c2), if_pos (Or.inr c2)]
    have q2 : decide (15 < c) = true := decide_eq_true c2
    go_enter Try.func53, Try.ntmps53
    go_wp2_with fail
    go_ret2
    exact Ret.mk rfl (by repeat (first | with_reducible exact Below.refl _ _ | (with_reducible refine Below.al ?_) | (with_reducible refine Below.drew ?_) | (with_reducible refine Below.set ?_ (by first | (simp; done) | omega | (simp; omega))) | (with_reducible refine Below.thru ?_ (by assumption)) | (with_reducible refine Below.chg ?_ (by assumption) (by first | (simp; done) | omega | (simp; omega)))))
  have q2 : decide (15 < c) = false := decide_eq_false c2
  rw [if_neg (show ¬(c < 0 ∨ 15 < c) by omega), if_neg (show ¬(c < 0 ∨ 15 < c) by omega)]
  by_cases c3 : c = 0
  · rw [if_pos c3, if_pos c3]
    subst c3
    have he := ext_all d
    have q5 : decide ((d.size : Int) < -4) = false := decide_eq_false (by omega)
    go_enter Try.func53, Try.ntmps53
    go_wp2_with fail
    go_ret2
    exact Ret.mk (by simp [he]) (by repeat (first | with_reducible exact Below.refl _ _ | (with_reducible refine Below.al ?_) | (with_reducible refine Below.drew ?_) | (with_reducible refine Below.set ?_ (by first | (simp; done) | omega | (simp; omega))) | (with_reducible refine Below.thru ?_ (by assumption)) | (with_reducible refine Below.chg ?_ (by assumption) (by first | (simp; done) | omega | (simp; omega)))))
  rw [if_neg c3, if_neg c3]
  have q3 : decide (c = 0) = false := decide_eq_false c3
  have q3' : (c == 0) = false := by simp; omega
  by_cases c4 : (d.size : Int) < 4 * (c - 1)
  · rw [if_pos c4, if_pos c4]
    have q4 : decide ((d.size : Int) < 4 * (c - 1)) = true := decide_eq_true c4
    clear c4
    go_enter Try.func53, Try.ntmps53
    go_wp2_with fail
    go_ret2
    exact Ret.mk rfl (by repeat (first | with_reducible exact Below.refl _ _ | (with_reducible refine Below.al ?_) | (with_reducible refine Below.drew ?_) | (with_reducible refine Below.set ?_ (by first | (simp; done) | omega | (simp; omega))) | (with_reducible refine Below.thru ?_ (by assumption)) | (with_reducible refine Below.chg ?_ (by assumption) (by first | (simp; done) | omega | (simp; omega)))))
  rw [if_neg c4, if_neg c4]
  have q4 : decide ((d.size : Int) < 4 * (c - 1)) = false := decide_eq_false c4
  obtain ⟨m, hm⟩ : ∃ m : Nat, 4 * (c - 1) = m := ⟨(4 * (c - 1)).toNat, by omega⟩
  have hm' : m ≤ d.size := by omega
  rw [hm]
  clear c3
  go_enter Try.func53, Try.ntmps53
  go_wp2_with fail
  go_ret2
  exact Ret.mk rfl (by repeat (first | with_reducible exact Below.refl _ _ | (with_reducible refine Below.al ?_) | (with_reducible refine Below.drew ?_) | (with_reducible refine Below.set ?_ (by first | (simp; done) | omega | (simp; omega))) | (with_reducible refine Below.thru ?_ (by assumption)) | (with_reducible refine Below.chg ?_ (by assumption) (by first | (simp; done) | omega | (simp; omega)))))

theorem xor16 (n : Int) (h0 : 0 ≤ n) (h1 : n ≤ 65535) : bits .xor .u16 IntKind.u16.max n = 65535 - n := by
  obtain ⟨k, rfl⟩ : ∃ k : Nat, n = (k : Int) := ⟨n.toNat, by omega⟩
  have h127 : (BitVec.ofInt 16 65535).toNat = 65535 := by decide
  have key : (BitVec.ofInt 16 65535 ^^^ BitVec.ofInt 16 (k : Int)).toNat = 65535 - k := by
    rw [BitVec.toNat_xor, BitVec.toNat_ofInt (n := 16) (i := (k : Int)), h127]
    have : ((k : Int) % ((2 ^ 16 : Nat) : Int)).toNat = k := by omega
    rw [this, Nat.xor_comm]
    exact xor_nat k (by omega)
  show IntKind.u16.wrap ((BitVec.ofInt 16 65535 ^^^ BitVec.ofInt 16 (k : Int)).toNat : Nat) = 65535 - (k : Int)
  rw [key]
  simp [IntKind.wrap, IntKind.bits, IntKind.signed]
  omega
theorem wrap16 (n : Int) : IntKind.u16.wrap n = n % 65536 := by simp [IntKind.wrap, IntKind.bits, IntKind.signed]
set_option maxRecDepth 100000 in
theorem rpatch (s o n : Int) (w : World) : Calls Try.prog 58 #[.int .i64 s, .int .i64 o, .int .i64 n] w (Ret w (.int .i64 (65535 - ocI (65535 - s % 65536 + (65535 - o % 65536) + n % 65536)))) := by
  obtain ⟨s', hs'⟩ : ∃ x, x = 65535 - s % 65536 := ⟨_, rfl⟩
  obtain ⟨o', ho'⟩ : ∃ x, x = 65535 - o % 65536 := ⟨_, rfl⟩
  obtain ⟨n', hn'⟩ : ∃ x, x = n % 65536 := ⟨_, rfl⟩
  rw [← hs', ← ho', ← hn']
  have hsg : IntKind.u16.signed = false := rfl
  have w1 : bits .xor .u16 IntKind.u16.max (IntKind.u16.wrap s) = s' := by rw [wrap16, xor16 _ (by omega) (by omega), hs']
  have w2 : bits .xor .u16 IntKind.u16.max (IntKind.u16.wrap o) = o' := by rw [wrap16, xor16 _ (by omega) (by omega), ho']
  have w3 : IntKind.u16.wrap n = n' := by rw [wrap16, hn']
  have hs0 : 0 ≤ s' := by omega
  have hs1 : s' ≤ 65535 := by omega
  have ho0 : 0 ≤ o' := by omega
  have ho1 : o' ≤ 65535 := by omega
  have hn0 : 0 ≤ n' := by omega
  have hn1 : n' ≤ 65535 := by omega
  clear hs' ho' hn'
  obtain ⟨t, ht⟩ : ∃ t, t = s' + o' + n' := ⟨_, rfl⟩
  have ht0 : 0 ≤ t := by omega
  have ht1 : t ≤ 196605 := by omega
  rw [← ht]
  replace ht := Lib.hid ht
  go_enter Try.func58, Try.ntmps58
  go_wp2_with fail
  rw [← ht.out]
  clear ht w1 w2 w3 hs0 hs1 ho0 ho1 hn0 hn1
  go_loopg [7] t.toNat (fun g i wr => ∃ x : Int, i = .int .i64 x ∧ 0 ≤ x ∧ x ≤ t ∧ Hid (ocI x = ocI t) ∧ g = x.toNat ∧ Below w.heap.size w wr)
  case atStart => exact ⟨t, rfl, ht0, Int.le_refl _, rfl, rfl, (by repeat (first | with_reducible exact Below.refl _ _ | (with_reducible refine Below.al ?_) | (with_reducible refine Below.drew ?_) | (with_reducible refine Below.set ?_ (by first | (simp; done) | omega | (simp; omega))) | (with_reducible refine Below.thru ?_ (by assumption)) | (with_reducible refine Below.chg ?_ (by assumption) (by first | (simp; done) | omega | (simp; omega)))))⟩
  case round =>
    obtain ⟨x, rfl, hx0, hx1, hoc, hg, hbw⟩ := hrel
    by_cases hlt : 65535 < x
    · have q : decide (65535 < x) = true := decide_eq_true hlt
      have hoc' : Hid (ocI (x % 65536 + x / 65536) = ocI t) := (ocI_fold x hlt).trans hoc.out
      go_wp2_with fail
      go_roundg (x % 65536 + x / 65536).toNat
      case measure => omega
      case rel => exact ⟨x % 65536 + x / 65536, by first | rfl | go_num, by omega, by omega, hoc'.out, rfl, (by repeat (first | with_reducible exact Below.refl _ _ | (with_reducible refine Below.al ?_) | (with_reducible refine Below.drew ?_) | (with_reducible refine Below.set ?_ (by first | (simp; done) | omega | (simp; omega))) | (with_reducible refine Below.thru ?_ (by assumption)) | (with_reducible refine Below.chg ?_ (by assumption) (by first | (simp; done) | omega | (simp; omega)))))⟩
    · have q : decide (65535 < x) = false := decide_eq_false hlt
      have e : x = ocI t := by rw [← hoc.out, ocI_small x hx0 (by omega)]
      replace e := Lib.hid e
      go_wp2_with fail
      go_ret
      exact Ret.mk (by rw [← e.out]; rfl) (by repeat (first | with_reducible exact Below.refl _ _ | (with_reducible refine Below.al ?_) | (with_reducible refine Below.drew ?_) | (with_reducible refine Below.set ?_ (by first | (simp; done) | omega | (simp; omega))) | (with_reducible refine Below.thru ?_ (by assumption)) | (with_reducible refine Below.chg ?_ (by assumption) (by first | (simp; done) | omega | (simp; omega)))))

theorem words_one (l : List UInt8) (k : Nat) (hk : k % 2 = 0) (h : k + 1 = l.length) : words (l.take (k + 2)) = words (l.take k) + 256 * (l[k]).toNat := by
  rw [List.take_of_length_le (by omega), words_cut l k hk, List.drop_eq_getElem_cons (by omega), List.drop_of_length_le (by omega)]
  simp [words]

set_option maxRecDepth 100000 in
set_option maxHeartbeats 1000000 in
theorem rsum_any (ps : List ByteArray) (n : Nat) (hl : ps.length = n) (hn : n ≤ 50) (hsz : ∀ s ∈ ps, s.size ≤ 4000) (a : Option Addr) (cap : Nat) (w : World) (h : Rd w a (strs ps)) :
    Calls Try.prog 55 #[.slice a n cap] w (Ret w (.int .i64 (sumV (wsum ps)))) := by
  replace hl := Lib.hid hl; replace hsz := Lib.hid hsz; replace h := Lib.hid h
  go_enter Try.func55, Try.ntmps55
  go_wp2_with fail
  go_loopg [3, 4, 5] n (fun g acc i _ wr => ∃ k : Nat, k ≤ n ∧ g = n - k ∧ i = .int .i64 k ∧ acc = .int .i64 (wsum (ps.take k) : Int) ∧ wsum (ps.take k) ≤ 65535 * 4000 * k ∧ Below w.heap.size w wr)
  case atStart => exact ⟨0, by omega, by omega, rfl, rfl, by simp [wsum], (by repeat (first | with_reducible exact Below.refl _ _ | (with_reducible refine Below.al ?_) | (with_reducible refine Below.drew ?_) | (with_reducible refine Below.set ?_ (by first | (simp; done) | omega | (simp; omega))) | (with_reducible refine Below.thru ?_ (by assumption)) | (with_reducible refine Below.chg ?_ (by assumption) (by first | (simp; done) | omega | (simp; omega)))))⟩
  case round =>
    obtain ⟨k, hk, hg, rfl, rfl, hW, hbw⟩ := hrel
    have zw := hbw.size
    by_cases hlt : k < n
    · have hkl : k < ps.length := by have := hl.out; omega
      obtain ⟨b, off, rfl, hb, hc⟩ := (h.out.below hbw).cons (strs_ne hl.out hlt)
      have e0 := hc k _ (strs_at hkl)
      have hs := hsz.out ps[k] (List.getElem_mem hkl)
      have hnx := wsum_take hkl
      clear hc
      generalize ps[k] = p at *
      obtain ⟨W0, hW0⟩ : ∃ W0 : Nat, W0 = wsum (ps.take k) := ⟨_, rfl⟩
      rw [← hW0] at hnx hW ⊢
      have hwo : wr = wr := rfl
      replace hnx := Lib.hid hnx; replace hW0 := Lib.hid hW0
      go_wp2_with fail
      go_loopg [3, 5] (p.size + 1) (fun g acc i wx => ∃ m : Nat, m % 2 = 0 ∧ m ≤ p.size + 1 ∧ g = p.size + 1 - m ∧ i = .int .i64 m ∧ acc = .int .i64 ((W0 + words (p.data.toList.take m) : Nat) : Int) ∧ wx = wr)
      case atStart => exact ⟨0, rfl, by omega, by omega, rfl, by simp [words], rfl⟩
      case round =>
        obtain ⟨m, hm2, hm, hgm, rfl, rfl, hwx⟩ := hrel
        obtain ⟨V, hV⟩ : ∃ V : Nat, V = W0 + words (p.data.toList.take m) := ⟨_, rfl⟩
        rw [← hV]
        have hpl : p.data.toList.length = p.size := by simp
        have hVb : V ≤ 65535 * 4000 * k + 65535 * 4000 := by
          have h1 := words_le (p.data.toList.take m)
          have h2 : (p.data.toList.take m).length ≤ 4000 := by rw [List.length_take]; omega
          omega
        subst hwx
        have hVb2 : V ≤ 65535 * 4000 * 51 := by omega
        by_cases hm1 : m < p.size
        · by_cases hm3 : m + 1 < p.size
          · have hw : W0 + words (p.data.toList.take (m + 2)) = V + 256 * p[m].toNat + p[m + 1].toNat := by
              rw [words_two p.data.toList m hm2 (by omega), hV]
              show W0 + (words (p.data.toList.take m) + 256 * p[m].toNat + p[m + 1].toNat) = _
              omega
            have hb0 : ((p[m].toNat : Nat) : Int) < 256 := by have := p[m].toNat_lt; omega
            have hb1 : ((p[m + 1].toNat : Nat) : Int) < 256 := by have := p[m + 1].toNat_lt; omega
            replace hw := Lib.hid hw; replace hV := Lib.hid hV
            clear hVb hW
            go_wp2_with fail
            go_roundg (p.size + 1 - (m + 2))
            case measure => omega
            case rel => exact ⟨m + 2, by omega, by omega, rfl, by go_num, congrArg (Value.int .i64) (by have := hw.out; omega), rfl⟩
          · have hmeq : p.size = m + 1 := by omega
            have q7 : decide ((m : Int) + 1 < p.size) = false := decide_eq_false (by omega)
            have hw : W0 + words (p.data.toList.take (m + 2)) = V + 256 * p[m].toNat := by
              rw [words_one p.data.toList m hm2 (by omega), hV]
              show W0 + (words (p.data.toList.take m) + 256 * p[m].toNat) = _
              omega
            have hb0 : ((p[m].toNat : Nat) : Int) < 256 := by have := p[m].toNat_lt; omega
            replace hw := Lib.hid hw; replace hV := Lib.hid hV; replace hmeq := Lib.hid hmeq
            clear hVb hW hm3
            go_wp2_with fail
            go_roundg (p.size + 1 - (m + 2))
            case measure => have := hmeq.out; omega
            case rel => exact ⟨m + 2, by omega, by have := hmeq.out; omega, rfl, by go_num, congrArg (Value.int .i64) (by have := hw.out; omega), rfl⟩
        · have hte : p.data.toList.take m = p.data.toList := List.take_of_length_le (by omega)
          rw [hte] at hV
          have q7 : decide ((m : Int) < p.size) = false := decide_eq_false (by omega)
          have hb2 : W0 + words p.data.toList ≤ 65535 * 4000 * (k + 1) := by
            have h1 := words_le p.data.toList
            omega
          clear hte hVb hW
          replace hV := Lib.hid hV
          go_wp2_with fail
          go_roundg (n - (k + 1))
          case measure => omega
          case rel => exact ⟨k + 1, by omega, rfl, by go_num, by rw [hnx.out, ← hV.out], by rw [hnx.out]; exact hb2, (by repeat (first | with_reducible exact Below.refl _ _ | (with_reducible refine Below.al ?_) | (with_reducible refine Below.drew ?_) | (with_reducible refine Below.set ?_ (by first | (simp; done) | omega | (simp; omega))) | (with_reducible refine Below.thru ?_ (by assumption)) | (with_reducible refine Below.chg ?_ (by assumption) (by first | (simp; done) | omega | (simp; omega)))))⟩
    · have e : ps.take k = ps := List.take_of_length_le (by have := hl.out; omega)
      rw [e] at hW ⊢
      obtain ⟨V, hV⟩ : ∃ V : Nat, V = wsum ps := ⟨_, rfl⟩
      have hVb2 : V ≤ 65535 * 4000 * 51 := by omega
      rw [← hV]
      clear e hW
      obtain ⟨t, ht⟩ : ∃ t : Int, t = V := ⟨_, rfl⟩
      have ht0 : 0 ≤ t := by omega
      have ht1 : t ≤ 65535 * 4000 * 51 := by omega
      rw [← ht]
      have hT : sumV (wsum ps : Int) = 65535 - ocI t := by unfold sumV; rw [ht, hV]
      replace hT := Lib.hid hT
      clear ht hVb2 hV
      go_wp2_with fail
      obtain ⟨wo, hwo⟩ : ∃ wo : World, wo = wr := ⟨_, rfl⟩
      subst hwo
      go_loopg [3] t.toNat (fun g i wr => ∃ x : Int, i = .int .i64 x ∧ 0 ≤ x ∧ x ≤ t ∧ Hid (ocI x = ocI t) ∧ g = x.toNat ∧ Below w.heap.size w wr)
      case atStart => exact ⟨t, rfl, ht0, Int.le_refl _, rfl, rfl, (by repeat (first | with_reducible exact Below.refl _ _ | (with_reducible refine Below.al ?_) | (with_reducible refine Below.drew ?_) | (with_reducible refine Below.set ?_ (by first | (simp; done) | omega | (simp; omega))) | (with_reducible refine Below.thru ?_ (by assumption)) | (with_reducible refine Below.chg ?_ (by assumption) (by first | (simp; done) | omega | (simp; omega)))))⟩
      case round =>
        obtain ⟨x, rfl, hx0, hx1, hoc, hg, hbw⟩ := hrel
        by_cases hlt : 65535 < x
        · have q : decide (65535 < x) = true := decide_eq_true hlt
          have hoc' : Hid (ocI (x % 65536 + x / 65536) = ocI t) := (ocI_fold x hlt).trans hoc.out
          go_wp2_with fail
          go_roundg (x % 65536 + x / 65536).toNat
          case measure => omega
          case rel => exact ⟨x % 65536 + x / 65536, by first | rfl | go_num, by omega, by omega, hoc'.out, rfl, (by repeat (first | with_reducible exact Below.refl _ _ | (with_reducible refine Below.al ?_) | (with_reducible refine Below.drew ?_) | (with_reducible refine Below.set ?_ (by first | (simp; done) | omega | (simp; omega))) | (with_reducible refine Below.thru ?_ (by assumption)) | (with_reducible refine Below.chg ?_ (by assumption) (by first | (simp; done) | omega | (simp; omega)))))⟩
        · have q : decide (65535 < x) = false := decide_eq_false hlt
          have e : x = ocI t := by rw [← hoc.out, ocI_small x hx0 (by omega)]
          replace e := Lib.hid e
          go_wp2_with fail
          go_ret
          exact Ret.mk (by rw [hT.out, ← e.out]; rfl) (by repeat (first | with_reducible exact Below.refl _ _ | (with_reducible refine Below.al ?_) | (with_reducible refine Below.drew ?_) | (with_reducible refine Below.set ?_ (by first | (simp; done) | omega | (simp; omega))) | (with_reducible refine Below.thru ?_ (by assumption)) | (with_reducible refine Below.chg ?_ (by assumption) (by first | (simp; done) | omega | (simp; omega)))))

set_option maxRecDepth 100000 in
theorem great_any (ps : List ByteArray) (n : Nat) (hl : ps.length = n) (hn : n ≤ maxLen) (hsz : ∀ s ∈ ps, s.size ≤ maxLen) (a : Option Addr) (cap : Nat) (w : World) (h : Rd w a (strs ps)) :
    Calls Try.prog 52 #[.slice a n cap] w (fun e w' => ∃ b : Bool, e = .returned (.bool b) ∧ (b = false → n ≤ 50 ∧ ∀ s ∈ ps, s.size ≤ 4000) ∧ Below w.heap.size w w') := by
  unfold maxLen at hn hsz
  replace hl := Lib.hid hl; replace hsz := Lib.hid hsz; replace h := Lib.hid h
  go_enter Try.func52, Try.ntmps52
  go_wp2_with fail
  go_loopg [3, 4] n (fun g acc i wr => ∃ (k N : Nat), k ≤ n ∧ g = n - k ∧ i = .int .i64 k ∧ acc = .int .i64 (N : Int) ∧ N ≤ 4000 ∧ k ≤ 50 ∧ Hid (∀ s ∈ ps.take k, s.size ≤ 4000) ∧ Below w.heap.size w wr)
  case atStart => exact ⟨0, 0, by omega, by omega, rfl, rfl, by omega, by omega, (show ∀ s ∈ ps.take 0, s.size ≤ 4000 from by simp), (by repeat (first | with_reducible exact Below.refl _ _ | (with_reducible refine Below.al ?_) | (with_reducible refine Below.drew ?_) | (with_reducible refine Below.set ?_ (by first | (simp; done) | omega | (simp; omega))) | (with_reducible refine Below.thru ?_ (by assumption)) | (with_reducible refine Below.chg ?_ (by assumption) (by first | (simp; done) | omega | (simp; omega)))))⟩
  case round =>
    obtain ⟨k, N, hk, hg, rfl, rfl, hN, hk5, hall, hbw⟩ := hrel
    have zw := hbw.size
    by_cases hlt : k < n
    · have hkl : k < ps.length := by have := hl.out; omega
      obtain ⟨b, off, rfl, hb, hc⟩ := (h.out.below hbw).cons (strs_ne hl.out hlt)
      have e0 := hc k _ (strs_at hkl)
      have hs := hsz.out ps[k] (List.getElem_mem hkl)
      have hnx : ps.take (k + 1) = ps.take k ++ [ps[k]] := List.take_succ_eq_append_getElem hkl
      clear hc
      generalize ps[k] = p at *
      by_cases c1 : 50 ≤ k
      · have q1 : decide ((50 : Int) ≤ k) = true := decide_eq_true (by omega)
        replace hnx := Lib.hid hnx
        go_wp2_with fail
        go_ret
        exact ⟨true, rfl, by simp, (by repeat (first | with_reducible exact Below.refl _ _ | (with_reducible refine Below.al ?_) | (with_reducible refine Below.drew ?_) | (with_reducible refine Below.set ?_ (by first | (simp; done) | omega | (simp; omega))) | (with_reducible refine Below.thru ?_ (by assumption)) | (with_reducible refine Below.chg ?_ (by assumption) (by first | (simp; done) | omega | (simp; omega)))))⟩
      have q1 : decide ((50 : Int) ≤ k) = false := decide_eq_false (by omega)
      obtain ⟨M, hM⟩ : ∃ M : Nat, M = N + min p.size 5000 := ⟨_, rfl⟩
      have hM' : (N : Int) + min (p.size : Int) 5000 = (M : Int) := by omega
      by_cases c2 : 4000 < M
      · have q2 : decide ((4000 : Int) < M) = true := decide_eq_true (by omega)
        replace hnx := Lib.hid hnx; replace hM := Lib.hid hM
        go_wp2_with fail
        go_ret
        exact ⟨true, rfl, by simp, (by repeat (first | with_reducible exact Below.refl _ _ | (with_reducible refine Below.al ?_) | (with_reducible refine Below.drew ?_) | (with_reducible refine Below.set ?_ (by first | (simp; done) | omega | (simp; omega))) | (with_reducible refine Below.thru ?_ (by assumption)) | (with_reducible refine Below.chg ?_ (by assumption) (by first | (simp; done) | omega | (simp; omega)))))⟩
      have q2 : decide ((4000 : Int) < M) = false := decide_eq_false (by omega)
      have hall' : Hid (∀ s ∈ ps.take (k + 1), s.size ≤ 4000) := by
        intro s hs'
        rw [hnx] at hs'
        rcases List.mem_append.1 hs' with h1 | h1
        · exact hall.out s h1
        · obtain rfl := List.mem_singleton.1 h1
          omega
      have hM4 : M ≤ 4000 := by omega
      replace hnx := Lib.hid hnx; replace hM := Lib.hid hM
      go_wp2_with fail
      go_roundg (n - (k + 1))
      case measure => omega
      case rel => exact ⟨k + 1, M, by omega, rfl, by go_num, rfl, hM4, by omega, hall'.out, (by repeat (first | with_reducible exact Below.refl _ _ | (with_reducible refine Below.al ?_) | (with_reducible refine Below.drew ?_) | (with_reducible refine Below.set ?_ (by first | (simp; done) | omega | (simp; omega))) | (with_reducible refine Below.thru ?_ (by assumption)) | (with_reducible refine Below.chg ?_ (by assumption) (by first | (simp; done) | omega | (simp; omega)))))⟩
    · have e : ps.take k = ps := List.take_of_length_le (by have := hl.out; omega)
      rw [e] at hall
      have hn5 : n ≤ 50 := by omega
      replace e := Lib.hid e
      go_wp2_with fail
      go_ret
      exact ⟨false, rfl, fun _ => ⟨hn5, hall.out⟩, (by repeat (first | with_reducible exact Below.refl _ _ | (with_reducible refine Below.al ?_) | (with_reducible refine Below.drew ?_) | (with_reducible refine Below.set ?_ (by first | (simp; done) | omega | (simp; omega))) | (with_reducible refine Below.thru ?_ (by assumption)) | (with_reducible refine Below.chg ?_ (by assumption) (by first | (simp; done) | omega | (simp; omega)))))⟩
end Go.Proofs.Ythodfihdmhkgeaa.Inet
