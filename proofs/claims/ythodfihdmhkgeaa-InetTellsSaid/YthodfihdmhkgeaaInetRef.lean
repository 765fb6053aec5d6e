/- The walks of the document's answers for the package inet, and of Covered. -/
import Derived.Test.YthodfihdmhkgeaaInetPut
namespace Go.Proofs.Ythodfihdmhkgeaa.Inet
set_option linter.unusedSimpArgs false
set_option linter.unusedVariables false
open Go Go.RowKit Go.Proofs.Ythodfihdmhkgeaa Go.Proofs.Ythodfihdmhkgeaa.Octets
attribute [local irreducible] Calls

def bs (l : List UInt8) : ByteArray := ⟨l.toArray⟩
theorem bs_app (a b : List UInt8) : bs a ++ bs b = bs (a ++ b) := by
  apply ByteArray.ext
  rw [ByteArray.data_append]
  simp [bs]
theorem bs_self (s : ByteArray) : bs s.data.toList = s := by
  apply ByteArray.ext
  simp [bs]
theorem bs_size (l : List UInt8) : (bs l).size = l.length := by simp [bs, ByteArray.size]

set_option maxRecDepth 100000 in
theorem rput (s : ByteArray) (n : Int) (k : Nat) (hn : 0 ≤ n ∧ n ≤ 18446744073709551615) (hk : k ≤ 8) (hs : s.size ≤ 900000000) (w : World) :
    Calls Try.prog 85 #[.string s, .int .u64 n, .int .i64 k] w (Ret w (.string (bs (s.data.toList ++ putB n k)))) := by
  go_enter Try.func85, Try.ntmps85
  go_wp2_with fail
  go_loopg [1, 7, 8] k (fun g nv t i wx => ∃ (j : Nat) (v : Int), j ≤ k ∧ g = k - j ∧ i = .int .i64 j ∧ nv = .int .u64 v ∧ Hid (v = n / 256 ^ j) ∧ 0 ≤ v ∧ v ≤ 18446744073709551615 ∧ t = .string (bs (putB n j)) ∧ Below w.heap.size w wx)
  case atStart => exact ⟨0, n, by omega, by omega, rfl, rfl, (show n = _ by simp), hn.1, hn.2, rfl, (by repeat (first | with_reducible exact Below.refl _ _ | (with_reducible refine Below.al ?_) | (with_reducible refine Below.drew ?_) | (with_reducible refine Below.set ?_ (by first | (simp; done) | omega | (simp; omega))) | (with_reducible refine Below.thru ?_ (by assumption)) | (with_reducible refine Below.chg ?_ (by assumption) (by first | (simp; done) | omega | (simp; omega)))))⟩
  case round =>
    obtain ⟨j, v, hj, hg, rfl, rfl, hv, hv0, hv1, rfl, hbx⟩ := hrel
    have zx := hbx.size
    have hpl : (bs (putB n j)).size = j := by rw [bs_size, putB_len]
    by_cases hlt : j < k
    · have q1 : decide ((j : Int) < k) = true := decide_eq_true (by omega)
      have q2 : decide ((j : Int) < 8) = true := decide_eq_true (by omega)
      obtain ⟨b, hb⟩ : ∃ b, b = byteAt n j := ⟨_, rfl⟩
      have hbv : (v % 256 : Int) = (b.toNat : Int) := by
        rw [hb, hv.out]; unfold byteAt; rw [UInt8.toNat_ofNat']; omega
      have hstr := run_convert_bytes_back (P := Try.prog) (wr.alloc (.cells #[.int .u8 (b.toNat : Int)] 5)) _ _ _ ⟨wr.heap.size, 0, none⟩ 1 [b] Try.underlying57 Try.underlying5 Try.underlying9 (fun i hi => by
        match i, hi with
        | 0, _ => exact World.cell?_alloc_new ..)
      rw [show [b].length = 1 from rfl] at hstr
      have hcat : (⟨[b].toArray⟩ : ByteArray) ++ bs (putB n j) = bs (putB n (j + 1)) := by
        rw [putB_head, ← hb]; exact bs_app [b] _
      have hsz1 : (⟨[b].toArray⟩ : ByteArray).size = 1 := rfl
      have hv' : Hid (v / 256 = n / 256 ^ (j + 1)) := by
        show _ = _
        rw [hv.out, Int.ediv_ediv_of_nonneg (Int.le_of_lt (Int.pow_pos (by omega))), Int.pow_succ]
      replace hb := Lib.hid hb; replace hcat := Lib.hid hcat
      go_wp2_with fail
      go_roundg (k - (j + 1))
      case measure => omega
      case rel => exact ⟨j + 1, v / 256, by omega, rfl, by go_num, by first | rfl | go_num, hv'.out, by omega, by omega, by rw [hcat.out], (by repeat (first | with_reducible exact Below.refl _ _ | (with_reducible refine Below.al ?_) | (with_reducible refine Below.drew ?_) | (with_reducible refine Below.set ?_ (by first | (simp; done) | omega | (simp; omega))) | (with_reducible refine Below.thru ?_ (by assumption)) | (with_reducible refine Below.chg ?_ (by assumption) (by first | (simp; done) | omega | (simp; omega)))))⟩
    · obtain rfl : j = k := by omega
      have q1 : decide ((j : Int) < j) = false := decide_eq_false (by omega)
      have hcat : s ++ bs (putB n j) = bs (s.data.toList ++ putB n j) := by rw [← bs_app, bs_self]
      replace hcat := Lib.hid hcat
      go_wp2_with fail
      go_ret
      exact Ret.mk (by rw [← hcat.out]; rfl) (by repeat (first | with_reducible exact Below.refl _ _ | (with_reducible refine Below.al ?_) | (with_reducible refine Below.drew ?_) | (with_reducible refine Below.set ?_ (by first | (simp; done) | omega | (simp; omega))) | (with_reducible refine Below.thru ?_ (by assumption)) | (with_reducible refine Below.chg ?_ (by assumption) (by first | (simp; done) | omega | (simp; omega)))))

theorem byteAt_wrap (n : Int) (g : Nat) (h : g ≤ 7) : byteAt (IntKind.u64.wrap n) g = byteAt n g := by
  have hw : IntKind.u64.wrap n = n % 18446744073709551616 := by simp [IntKind.wrap, IntKind.bits, IntKind.signed]
  unfold byteAt
  rw [hw]
  congr 2
  match g, h with
  | 0, _ => simp
  | 1, _ => simp; omega
  | 2, _ => simp; omega
  | 3, _ => simp; omega
  | 4, _ => simp; omega
  | 5, _ => simp; omega
  | 6, _ => simp; omega
  | 7, _ => simp; omega
theorem putB_wrap (n : Int) : ∀ k, k ≤ 8 → putB (IntKind.u64.wrap n) k = putB n k
  | 0, _ => rfl
  | k + 1, h => by rw [putB_head, putB_head, byteAt_wrap n k (by omega), putB_wrap n k (by omega)]

theorem bs_data (l : List UInt8) : (bs l).data.toList = l := by simp [bs]
def psV (a b c : Int) : ByteArray := bs (((([] ++ putB a 4) ++ putB b 4) ++ putB 33 2) ++ putB c 2)
theorem rpseudo (a b c : Int) (w : World) : Calls Try.prog 57 #[.int .i64 a, .int .i64 b, .int .i64 c] w (Ret w (.string (psV a b c))) := by
  have wa : 0 ≤ IntKind.u64.wrap a ∧ IntKind.u64.wrap a ≤ 18446744073709551615 := by rw [IntKind.wrap_u64]; omega
  have wb : 0 ≤ IntKind.u64.wrap b ∧ IntKind.u64.wrap b ≤ 18446744073709551615 := by rw [IntKind.wrap_u64]; omega
  have wc : 0 ≤ IntKind.u64.wrap c ∧ IntKind.u64.wrap c ≤ 18446744073709551615 := by rw [IntKind.wrap_u64]; omega
  obtain ⟨s1, h1⟩ : ∃ s1, s1 = bs ([] ++ putB a 4) := ⟨_, rfl⟩
  obtain ⟨s2, h2⟩ : ∃ s2, s2 = bs (([] ++ putB a 4) ++ putB b 4) := ⟨_, rfl⟩
  obtain ⟨s3, h3⟩ : ∃ s3, s3 = bs ((([] ++ putB a 4) ++ putB b 4) ++ putB 33 2) := ⟨_, rfl⟩
  have hr : psV a b c = bs (s3.data.toList ++ putB c 2) := by rw [h3, bs_data]; rfl
  have P1 := fun w => rput ⟨#[]⟩ (IntKind.u64.wrap a) 4 wa (by omega) (by decide) w
  rw [putB_wrap a 4 (by omega), show bs ((⟨#[]⟩ : ByteArray).data.toList ++ putB a 4) = s1 from by rw [h1]] at P1
  have P2 := fun w => rput s1 (IntKind.u64.wrap b) 4 wb (by omega) (by rw [h1, bs_size]; simp [putB_len]) w
  rw [putB_wrap b 4 (by omega), show bs (s1.data.toList ++ putB b 4) = s2 from by rw [h1, h2, bs_data]] at P2
  have P3 := fun w => rput s3 (IntKind.u64.wrap c) 2 wc (by omega) (by rw [h3, bs_size]; simp [putB_len]) w
  rw [putB_wrap c 2 (by omega), ← hr] at P3
  have hcat : s2 ++ ⟨#[0, 33]⟩ = s3 := by
    rw [h2, h3, ← bs_app]; congr 1
  have hsz : s2.size = 8 := by rw [h2, bs_size]; simp [putB_len]
  have hsz2 : (⟨#[0, 33]⟩ : ByteArray).size = 2 := rfl
  clear wa wb wc h1 h2 h3 hr
  generalize psV a b c = r at *
  replace P1 := Lib.hid P1; replace P2 := Lib.hid P2; replace P3 := Lib.hid P3; replace hcat := Lib.hid hcat
  go_enter Try.func57, Try.ntmps57
  go_wp2_with fail
  refine Calls.mono (P1.out _) ?_
  rintro e w1 ⟨rfl, hb1⟩
  have z1 := Below.size hb1; try simp only [World.size_alloc, World.size_setCell, World.size_drew] at z1
  go_wp2_with fail
  refine Calls.mono (P2.out _) ?_
  rintro e w2 ⟨rfl, hb2⟩
  have z2 := Below.size hb2; try simp only [World.size_alloc, World.size_setCell, World.size_drew] at z2
  go_wp2_with fail
  rw [hcat.out]
  refine Calls.mono (P3.out _) ?_
  rintro e w3 ⟨rfl, hb3⟩
  have z3 := Below.size hb3; try simp only [World.size_alloc, World.size_setCell, World.size_drew] at z3
  go_wp2_with fail
  go_ret
  exact Ret.mk rfl (by repeat (first | with_reducible exact Below.refl _ _ | (with_reducible refine Below.al ?_) | (with_reducible refine Below.drew ?_) | (with_reducible refine Below.set ?_ (by first | (simp; done) | omega | (simp; omega))) | (with_reducible refine Below.thru ?_ (by assumption)) | (with_reducible refine Below.chg ?_ (by assumption) (by first | (simp; done) | omega | (simp; omega)))))

def covV (h d : ByteArray) (c : Int) : ByteArray := if c < 0 ∨ 15 < c then ⟨#[]⟩ else if c = 0 then h ++ d else if d.size < 4 * (c - 1) then ⟨#[]⟩ else h ++ d.extract 0 (4 * (c - 1)).toNat
def covB (d : ByteArray) (c : Int) : Bool := if c < 0 ∨ 15 < c then false else if c = 0 then true else if d.size < 4 * (c - 1) then false else true
theorem rcovered (h d : ByteArray) (c : Int) (hh : h.size ≤ 4000) (hd : d.size ≤ 4000) (hc : -9223372036854775808 ≤ c ∧ c ≤ 9223372036854775807) (w : World) :
    Calls Try.prog 54 #[.string h, .string d, .int .i64 c] w (Ret w (.tuple #[.string (covV h d c), .bool (covB d c)])) := by
  unfold covV covB
  obtain ⟨hc0, hc1⟩ := hc
  go_enter Try.func54, Try.ntmps54
  by_cases c1 : c < 0
  · rw [if_pos (Or.inl c1), if_pos (Or.inl c1)]
    have q1 : decide (c < 0) = true := decide_eq_true c1
    go_wp2_with fail
    go_ret2
    exact Ret.mk rfl (by repeat (first | with_reducible exact Below.refl _ _ | (with_reducible refine Below.al ?_) | (with_reducible refine Below.drew ?_) | (with_reducible refine Below.set ?_ (by first | (simp; done) | omega | (simp; omega))) | (with_reducible refine Below.thru ?_ (by assumption)) | (with_reducible refine Below.chg ?_ (by assumption) (by first | (simp; done) | omega | (simp; omega)))))
  have q1 : decide (c < 0) = false := decide_eq_false c1
  by_cases c2 : 15 < c
  · rw [if_pos (Or.inr c2), if_pos (Or.inr c2)]
    have q2 : decide (15 < c) = true := decide_eq_true c2
    go_wp2_with fail
    go_ret2
    exact Ret.mk rfl (by repeat (first | with_reducible exact Below.refl _ _ | (with_reducible refine Below.al ?_) | (with_reducible refine Below.drew ?_) | (with_reducible refine Below.set ?_ (by first | (simp; done) | omega | (simp; omega))) | (with_reducible refine Below.thru ?_ (by assumption)) | (with_reducible refine Below.chg ?_ (by assumption) (by first | (simp; done) | omega | (simp; omega)))))
  have q2 : decide (15 < c) = false := decide_eq_false c2
  rw [if_neg (show ¬(c < 0 ∨ 15 < c) by omega), if_neg (show ¬(c < 0 ∨ 15 < c) by omega)]
  by_cases c3 : c = 0
  · rw [if_pos c3, if_pos c3]
    subst c3
    go_wp2_with fail
    go_ret2
    exact Ret.mk rfl (by repeat (first | with_reducible exact Below.refl _ _ | (with_reducible refine Below.al ?_) | (with_reducible refine Below.drew ?_) | (with_reducible refine Below.set ?_ (by first | (simp; done) | omega | (simp; omega))) | (with_reducible refine Below.thru ?_ (by assumption)) | (with_reducible refine Below.chg ?_ (by assumption) (by first | (simp; done) | omega | (simp; omega)))))
  rw [if_neg c3, if_neg c3]
  have q3 : decide (c = 0) = false := decide_eq_false c3
  have q3' : (c == 0) = false := by simp; omega
  by_cases c4 : (d.size : Int) < 4 * (c - 1)
  · rw [if_pos c4, if_pos c4]
    have q4 : decide ((d.size : Int) < 4 * (c - 1)) = true := decide_eq_true c4
    clear c4
    go_wp2_with fail
    go_ret2
    exact Ret.mk rfl (by repeat (first | with_reducible exact Below.refl _ _ | (with_reducible refine Below.al ?_) | (with_reducible refine Below.drew ?_) | (with_reducible refine Below.set ?_ (by first | (simp; done) | omega | (simp; omega))) | (with_reducible refine Below.thru ?_ (by assumption)) | (with_reducible refine Below.chg ?_ (by assumption) (by first | (simp; done) | omega | (simp; omega)))))
  rw [if_neg c4, if_neg c4]
  have q4 : decide ((d.size : Int) < 4 * (c - 1)) = false := decide_eq_false c4
  obtain ⟨m, hm⟩ : ∃ m : Nat, 4 * (c - 1) = m := ⟨(4 * (c - 1)).toNat, by omega⟩
  have hm' : m ≤ d.size := by omega
  rw [hm]
  clear c3
  go_wp2_with fail
  go_ret2
  exact Ret.mk rfl (by repeat (first | with_reducible exact Below.refl _ _ | (with_reducible refine Below.al ?_) | (with_reducible refine Below.drew ?_) | (with_reducible refine Below.set ?_ (by first | (simp; done) | omega | (simp; omega))) | (with_reducible refine Below.thru ?_ (by assumption)) | (with_reducible refine Below.chg ?_ (by assumption) (by first | (simp; done) | omega | (simp; omega)))))
end Go.Proofs.Ythodfihdmhkgeaa.Inet
