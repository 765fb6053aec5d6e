/- The walks of the package octets: numbers as bytes. -/
import Derived.Test.YtpajedpkdfacoaaOwn
import Derived.Test.YtpajedpkdfacoaaFits
import Derived.Deep.LoopGhost
namespace Go.Proofs.Ytpajedpkdfacoaa.Octets
set_option linter.unusedSimpArgs false
set_option linter.unusedVariables false
open Go Go.RowKit Go.Proofs.Ytpajedpkdfacoaa

/-- A number's k lowest bytes, the highest ahead. -/
def putB : Int → Nat → List UInt8
  | _, 0 => []
  | n, k + 1 => putB (n / 256) k ++ [UInt8.ofNat (n % 256).toNat]

theorem putB_len (k : Nat) : ∀ n, (putB n k).length = k := by
  induction k with
  | zero => intro n; rfl
  | succ k ih => intro n; simp [putB, ih]

/-- One byte of a number. -/
def byteAt (n : Int) (g : Nat) : UInt8 := UInt8.ofNat (n / 256 ^ g % 256).toNat

theorem putB_head (g : Nat) : ∀ n, putB n (g + 1) = byteAt n g :: putB n g := by
  induction g with
  | zero => intro n; simp [putB, byteAt]
  | succ g ih =>
    intro n
    rw [putB, ih, List.cons_append]
    congr 1
    unfold byteAt
    rw [Int.ediv_ediv_of_nonneg (by omega), Int.pow_succ, Int.mul_comm]

theorem byte_shr (n : Int) (g : Nat) (h : g ≤ 7) : IntKind.u64.wrap n / 2 ^ (8 * g) % 256 = ((byteAt n g).toNat : Int) := by
  have hw : IntKind.u64.wrap n = n % 18446744073709551616 := by simp [IntKind.wrap, IntKind.bits, IntKind.signed]
  have hb : ∀ x : Int, ((UInt8.ofNat (x % 256).toNat).toNat : Int) = x % 256 := by
    intro x
    simp only [UInt8.toNat_ofNat']
    omega
  unfold byteAt
  rw [hb, hw]
  match g, h with
  | 0, _ => simp
  | 1, _ => simp; omega
  | 2, _ => simp; omega
  | 3, _ => simp; omega
  | 4, _ => simp; omega
  | 5, _ => simp; omega
  | 6, _ => simp; omega
  | 7, _ => simp; omega

theorem byte_info : (Try.prog.info? 5).map (fun i => (i.zero, i.size, i.bytes)) = some (some (.int .u8 0), 1, 1) := by kernel_rfl

theorem put_int (s : ByteArray) (n size : Int) (w : World) (hs : s.size ≤ 900000000) (hz0 : -9223372036854775807 ≤ size) (hn : -9223372036854775808 ≤ n ∧ n ≤ 9223372036854775807) :
    Calls Try.prog 30 #[.string s, .int .i64 n, .int .i64 size] w (Ret w (.string ⟨(s.data.toList ++ putB n (min size 8).toNat).toArray⟩)) := by
  obtain ⟨i0, hi, hz, hz1, hz2⟩ := info_parts byte_info
  go_enter Try.func30, Try.ntmps30
  go_wp2_with (refine wpList_bytes rfl (.tmp 9) _ _ _ rfl Try.underlying9 Try.underlying121 Try.underlying5 s rfl (by unfold maxLen; omega) ?_; intro v w1 hown hb1 hblk)
  have zb := hb1.size
  have hl0 : s.data.toList.length = s.size := by simp
  go_loopg [7, 8] (min size 8).toNat (fun g b i wx => ∃ (iv : Int) (l : List UInt8), i = .int .i64 iv ∧ g = (iv + 1).toNat ∧ iv ≤ 7 ∧ -9223372036854775808 ≤ iv ∧ l.length ≤ s.size + 8 - g ∧ Own wx w.heap.size 1 b l.length (l.map byteVal) ∧
    Aside (l ++ putB n g = s.data.toList ++ putB n (min size 8).toNat) ∧ Below w.heap.size w wx)
  case atStart => exact ⟨_, s.data.toList, rfl, by omega, by omega, by omega, by omega, by rw [hl0]; exact hown, rfl, hb1⟩
  case round =>
    obtain ⟨b0, hb0⟩ : ∃ b0, b0 = u7 := ⟨_, rfl⟩
    subst hb0
    obtain ⟨iv, l, rfl, hg, hi7, hi0, hlen, hown, hA, hbx⟩ := hrel
    have zx := hbx.size
    by_cases hlt : 0 ≤ iv
    · obtain ⟨g, rfl⟩ : ∃ g : Nat, iv = (g : Int) := ⟨iv.toNat, by omega⟩
      have hX := byte_shr n g (by omega)
      obtain rfl : gk = g + 1 := by omega
      have hA' : l ++ byteAt n g :: putB n g = s.data.toList ++ putB n (min size 8).toNat := by rw [← putB_head]; exact hA.out
      have hown' := Lib.hid hown
      replace hX := Lib.hid hX; replace hA' := Lib.hid hA'
      clear hA hown
      go_wp2_with (at_builtin; refine wpList_app_new rfl (.tmp 18) (.tmp 25) _ rfl w.heap.size 5 i0 _ 1 1 Try.underlying121 hi hz hz1 hz2 rfl (by omega) b0 l.length (l.map byteVal) rfl hown'.out 1 1 [.int .u8 (IntKind.u64.wrap n / 2 ^ (8 * g) % 256)] rfl rfl (by intro u hu; simp at hu; subst hu; rfl) (by omega) (by omega) (by omega) ?_; intro v2 w2 hown2 hg2 hat2)
      rw [hX.out] at hown2
      have hbw2 : Below w.heap.size w w2 := hbx.trans (hown'.out.grown_below hg2 (Nat.le_refl _) zx)
      have hO2 : Own w2 w.heap.size 1 v2 (l ++ [byteAt n g]).length ((l ++ [byteAt n g]).map byteVal) := by simpa [byteVal] using hown2
      have hown2 := Lib.hid hO2
      clear hO2 hat2 hg2
      go_wp2_with fail
      go_roundg g
      case measure => omega
      case rel => exact ⟨(g : Int) - 1, l ++ [byteAt n g], rfl, by omega, by omega, by omega, by simp; omega, hown2.out, (show Aside _ from by show _ = _; simpa using hA'.out), hbw2⟩
    · obtain rfl : gk = 0 := by omega
      have hfin : l = s.data.toList ++ putB n (min size 8).toNat := by simpa [putB] using hA.out
      have hstr := run_str (P := Try.prog) w.heap.size _ _ _ Try.underlying121 Try.underlying5 Try.underlying9 _ l l.length rfl hown
      replace hfin := Lib.hid hfin
      go_wp2_with fail
      go_ret
      exact Ret.mk (by rw [← hfin.out]; rfl) hbx
end Go.Proofs.Ytpajedpkdfacoaa.Octets
