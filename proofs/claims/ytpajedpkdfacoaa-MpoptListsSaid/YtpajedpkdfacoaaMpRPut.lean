/- The walks of the document's Put. -/
import Derived.Test.YtpajedpkdfacoaaMpRefC
import Derived.Test.YtpajedpkdfacoaaOctetsRefM
namespace Go.Proofs.Ytpajedpkdfacoaa.Mp
set_option linter.unusedSimpArgs false
set_option linter.unusedVariables false
open Go Go.RowKit Go.Shelf Go.Proofs.Ytpajedpkdfacoaa Go.Proofs.Ytpajedpkdfacoaa.Octets
attribute [local irreducible] Calls

def bs (l : List UInt8) : ByteArray := ⟨l.toArray⟩
theorem bs_app (a b : List UInt8) : bs a ++ bs b = bs (a ++ b) := by
  apply ByteArray.ext
  rw [ByteArray.data_append]
  simp [bs]
theorem bs_self (s : ByteArray) : bs s.data.toList = s := by
  apply ByteArray.ext
  simp [bs]
theorem bs_size (l : List UInt8) : (bs l).size = l.length := by simp [bs, ByteArray.size]

set_option maxRecDepth 100000 in
theorem rput (s : ByteArray) (n : Int) (k : Nat) (hn : 0 ≤ n ∧ n ≤ 18446744073709551615) (hk : k ≤ 8) (hs : s.size ≤ 900000000) (w : World) :
    Calls Try.prog 33 #[.string s, .int .u64 n, .int .i64 k] w (Ret w (.string (bs (s.data.toList ++ putB n k)))) := by
  go_enter Try.func33, Try.ntmps33
  go_wp2_with fail
  go_loopg [1, 7, 8] k (fun g nv t i wx => ∃ (j : Nat) (v : Int), j ≤ k ∧ g = k - j ∧ i = .int .i64 j ∧ nv = .int .u64 v ∧ Hid (v = n / 256 ^ j) ∧ 0 ≤ v ∧ v ≤ 18446744073709551615 ∧ t = .string (bs (putB n j)) ∧ Below w.heap.size w wx)
  case atStart => exact ⟨0, n, by omega, by omega, rfl, rfl, (show n = _ by simp), hn.1, hn.2, rfl, (by repeat (first | with_reducible exact Below.refl _ _ | (with_reducible refine Below.al ?_) | (with_reducible refine Below.drew ?_) | (with_reducible refine Below.set ?_ (by first | (simp; done) | omega | (simp; omega))) | (with_reducible refine Below.thru ?_ (by assumption)) | (with_reducible refine Below.chg ?_ (by assumption) (by first | (simp; done) | omega | (simp; omega)))))⟩
  case round =>
    obtain ⟨j, v, hj, hg, rfl, rfl, hv, hv0, hv1, rfl, hbx⟩ := hrel
    have zx := hbx.size
    have hpl : (bs (putB n j)).size = j := by rw [bs_size, putB_len]
    by_cases hlt : j < k
    · have q1 : decide ((j : Int) < k) = true := decide_eq_true (by omega)
      have q2 : decide ((j : Int) < 8) = true := decide_eq_true (by omega)
      obtain ⟨b, hb⟩ : ∃ b, b = byteAt n j := ⟨_, rfl⟩
      have hbv : (v % 256 : Int) = (b.toNat : Int) := by
        rw [hb, hv.out]; unfold byteAt; rw [UInt8.toNat_ofNat']; omega
      have hstr := run_convert_bytes_back (P := Try.prog) (wr.alloc (.cells #[.int .u8 (b.toNat : Int)] 5)) _ _ _ ⟨wr.heap.size, 0, none⟩ 1 [b] Try.underlying121 Try.underlying5 Try.underlying9 (fun i hi => by
        match i, hi with
        | 0, _ => exact World.cell?_alloc_new ..)
      rw [show [b].length = 1 from rfl] at hstr
      have hcat : (⟨[b].toArray⟩ : ByteArray) ++ bs (putB n j) = bs (putB n (j + 1)) := by
        rw [putB_head, ← hb]; exact bs_app [b] _
      have hsz1 : (⟨[b].toArray⟩ : ByteArray).size = 1 := rfl
      have hv' : Hid (v / 256 = n / 256 ^ (j + 1)) := by
        show _ = _
        rw [hv.out, Int.ediv_ediv_of_nonneg (Int.le_of_lt (Int.pow_pos (by omega))), Int.pow_succ]
      replace hb := Lib.hid hb; replace hcat := Lib.hid hcat
      go_wp2_with fail
      go_roundg (k - (j + 1))
      case measure => omega
      case rel => exact ⟨j + 1, v / 256, by omega, rfl, by go_num, by first | rfl | go_num, hv'.out, by omega, by omega, by rw [hcat.out], (by repeat (first | with_reducible exact Below.refl _ _ | (with_reducible refine Below.al ?_) | (with_reducible refine Below.drew ?_) | (with_reducible refine Below.set ?_ (by first | (simp; done) | omega | (simp; omega))) | (with_reducible refine Below.thru ?_ (by assumption)) | (with_reducible refine Below.chg ?_ (by assumption) (by first | (simp; done) | omega | (simp; omega)))))⟩
    · obtain rfl : j = k := by omega
      have q1 : decide ((j : Int) < j) = false := decide_eq_false (by omega)
      have hcat : s ++ bs (putB n j) = bs (s.data.toList ++ putB n j) := by rw [← bs_app, bs_self]
      replace hcat := Lib.hid hcat
      go_wp2_with fail
      go_ret
      exact Ret.mk (by rw [← hcat.out]; rfl) (by repeat (first | with_reducible exact Below.refl _ _ | (with_reducible refine Below.al ?_) | (with_reducible refine Below.drew ?_) | (with_reducible refine Below.set ?_ (by first | (simp; done) | omega | (simp; omega))) | (with_reducible refine Below.thru ?_ (by assumption)) | (with_reducible refine Below.chg ?_ (by assumption) (by first | (simp; done) | omega | (simp; omega)))))

theorem byteAt_wrap (n : Int) (g : Nat) (h : g ≤ 7) : byteAt (IntKind.u64.wrap n) g = byteAt n g := by
  have hw : IntKind.u64.wrap n = n % 18446744073709551616 := by simp [IntKind.wrap, IntKind.bits, IntKind.signed]
  unfold byteAt
  rw [hw]
  congr 2
  match g, h with
  | 0, _ => simp
  | 1, _ => simp; omega
  | 2, _ => simp; omega
  | 3, _ => simp; omega
  | 4, _ => simp; omega
  | 5, _ => simp; omega
  | 6, _ => simp; omega
  | 7, _ => simp; omega
theorem putB_wrap (n : Int) : ∀ k, k ≤ 8 → putB (IntKind.u64.wrap n) k = putB n k
  | 0, _ => rfl
  | k + 1, h => by rw [putB_head, putB_head, byteAt_wrap n k (by omega), putB_wrap n k (by omega)]

theorem rput_at (s : ByteArray) (n : Int) (k : Nat) (hk : k ≤ 8) (hs : s.size ≤ 900000000) (w : World) :
    Calls Try.prog 33 #[.string s, .int .u64 (IntKind.u64.wrap n), .int .i64 k] w (Ret w (.string (catB s (putB n k)))) := by
  have h := rput s (IntKind.u64.wrap n) k (by rw [IntKind.wrap_u64]; omega) hk hs w
  rw [putB_wrap n k hk] at h
  exact h
def addP (t : ByteArray) (p : Int × Int) : ByteArray := catB t (putB p.2 p.1.toNat)
/-- The document's text. -/
def rtextM (m : Mu) : ByteArray := ((sizesM m.kind).zip (numsM m)).foldl addP (catB ⟨#[]⟩ (putB m.kind 1)) ++ m.dat
def rputV (m : Mu) : (Int × ByteArray) × Int := if rcheckM m = 0 then ((46, rtextM m), 0) else ((0, ⟨#[]⟩), rcheckM m)
set_option maxRecDepth 100000 in
set_option maxHeartbeats 2000000 in
theorem rput_any (m : Mu) (hd : m.dat.size ≤ 600) (w : World) : Calls Try.prog 8 #[.agg (encM m).toArray] w (Ret w (.tuple #[.agg #[.int .i64 (rputV m).1.1, .string (rputV m).1.2], .int .i64 (rputV m).2])) := by
  have H := ((St.zero w).alloc (encM m) 23).alloc [.int .i64 0, .string ⟨#[]⟩] 26
  simp only [World.size_alloc] at H
  have P := rcheck_any m (by omega)
  by_cases hc : rcheckM m = 0
  · have hv : rputV m = ((46, rtextM m), 0) := by unfold rputV; rw [if_pos hc]
    rw [hv]
    rw [hc] at P
    have PS := sizes_any m.kind
    have P4 : ∀ w', Calls Try.prog 33 #[.string ⟨#[]⟩, .int .u64 (IntKind.u64.wrap m.kind), .int .i64 1] w' (Ret w' (.string (catB ⟨#[]⟩ (putB m.kind 1)))) := fun w' => rput_at ⟨#[]⟩ m.kind 1 (by omega) (by decide) w'
    obtain ⟨hZ7, hZ⟩ := sizes_ok m.kind
    unfold rtextM
    obtain ⟨t0, ht0⟩ : ∃ t0, t0 = catB ⟨#[]⟩ (putB m.kind 1) := ⟨_, rfl⟩
    rw [← ht0] at P4 ⊢
    have hs0 : t0.size = 1 := by rw [ht0, catB_size, putB_len]; rfl
    generalize sizesM m.kind = Z at *
    obtain ⟨T, hT⟩ : ∃ T, T = (Z.zip (numsM m)).foldl addP t0 := ⟨_, rfl⟩
    rw [← hT]
    obtain ⟨kind, addr, prio, num, token, nonce, dat⟩ := m
    obtain ⟨N, hN⟩ : ∃ N, N = numsM ⟨kind, addr, prio, num, token, nonce, dat⟩ := ⟨_, rfl⟩
    have hN5 : N.length = 5 := by rw [hN]; rfl
    rw [← hN] at hT
    have hNe : [Value.int .i64 addr, .int .i64 prio, .int .i64 token, .int .i64 nonce, .int .i64 num] = i64s N := by rw [hN]; rfl
    unfold encM at *
    simp only [] at *
    clear hv hc ht0 hN
    obtain ⟨a0, a1, a2, a3, a4, a5, a6, hZe⟩ : ∃ a0 a1 a2 a3 a4 a5 a6, Z = [a0, a1, a2, a3, a4, a5, a6] := by
      match Z, hZ7 with
      | [a0, a1, a2, a3, a4, a5, a6], _ => exact ⟨a0, a1, a2, a3, a4, a5, a6, rfl⟩
    rw [hZe] at PS
    simp only [i64s, List.map_cons, List.map_nil] at PS
    replace H := Lib.hid H; replace P := Lib.hid P; replace PS := Lib.hid PS; replace P4 := Lib.hid P4; replace hZ := Lib.hid hZ; replace hNe := Lib.hid hNe; replace hZe := Lib.hid hZe; replace hT := Lib.hid hT
    go_enter Try.func8, Try.ntmps8
    go_wp2_with fail
    refine Calls.mono (P.out _) ?_
    rintro e w1 ⟨rfl, hb1⟩
    have z1 := Below.size hb1; try simp only [World.size_alloc, World.size_setCell, World.size_drew] at z1
    have H1 := H.out.thru hb1
    obtain ⟨zm1, cm1, fm1⟩ := H1.box 1 rfl
    clear P H
    replace H1 := Lib.hid H1
    go_wp2_with fail
    refine Calls.mono (PS.out _) ?_
    rintro e w2 ⟨rfl, hb2⟩
    have z2 := Below.size hb2; try simp only [World.size_alloc, World.size_setCell, World.size_drew] at z2
    have H2 := H1.out.thru hb2
    obtain ⟨zm2, cm2, fm2⟩ := H2.box 1 rfl
    clear PS H1 zm1 cm1 fm1
    have H3 := (H2.alloc [.int .i64 a0, .int .i64 a1, .int .i64 a2, .int .i64 a3, .int .i64 a4, .int .i64 a5, .int .i64 a6] 66).alloc [.int .i64 addr, .int .i64 prio, .int .i64 token, .int .i64 nonce, .int .i64 num] 68
    simp only [World.size_alloc] at H3
    have H4 := St.re (l' := [cellA w2.heap.size (i64s Z), cellA (w2.heap.size + 1) (i64s N), cellA (w.heap.size + 1) [.int .i64 0, .string ⟨#[]⟩], cellA w.heap.size [.int .i64 kind, .int .i64 addr, .int .i64 prio, .int .i64 num, .int .i64 token, .int .i64 nonce, .string dat]]) (H3.arrN [1, 0] rfl) (by rw [hZe.out, ← hNe.out]; rfl)
    clear H3 H2
    replace H4 := Lib.hid H4
    go_wp2_with fail
    refine Calls.mono (P4.out _) ?_
    rintro e w3 ⟨rfl, hb3⟩
    have z3 := Below.size hb3; try simp only [World.size_alloc, World.size_setCell, World.size_drew] at z3
    have H5 := H4.out.thru hb3
    clear P4 H4 zm2 cm2 fm2
    replace H5 := Lib.hid H5
    go_wp2_with fail
    go_loopg [7, 8] 5 (fun g v7 v8 wr => ∃ (j : Nat) (t : ByteArray), j ≤ 5 ∧ Hid (g = 5 - j) ∧ v8 = .int .i64 j ∧ v7 = .string t ∧ Hid (t = ((Z.zip N).take j).foldl addP t0) ∧ Hid (t.size ≤ 1 + 6 * j) ∧ Hid (St w none0 wr [cellA w2.heap.size (i64s Z), cellA (w2.heap.size + 1) (i64s N), cellA (w.heap.size + 1) [.int .i64 0, .string ⟨#[]⟩], cellA w.heap.size [.int .i64 kind, .int .i64 addr, .int .i64 prio, .int .i64 num, .int .i64 token, .int .i64 nonce, .string dat]]))
    case atStart => exact ⟨0, t0, by omega, Lib.hid rfl, rfl, rfl, Lib.hid rfl, Lib.hid (by omega), H5⟩
    case round =>
      obtain ⟨j, t, hj, hg, rfl, rfl, ht, hsz, hst⟩ := hrel
      clear H5
      by_cases hlt : j < 5
      · obtain ⟨zz, cz, fz⟩ := hst.out.box 0 rfl
        obtain ⟨zn, cn, fn⟩ := hst.out.box 1 rfl
        have hjZ : j < Z.length := by omega
        have hjN : j < N.length := by omega
        have hjz : j < (Z.zip N).length := by rw [List.length_zip]; omega
        have ez := i64_at cz hjZ
        have en := i64_at cn hjN
        have hz := hZ.out j hjZ hlt
        have htk : addP t (Z[j], N[j]) = ((Z.zip N).take (j + 1)).foldl addP t0 := by
          rw [List.take_succ_eq_append_getElem hjz, List.foldl_append, ← ht.out, List.getElem_zip]; rfl
        have hlt' : (j : Int) < 5 := by omega
        clear cz cn
        generalize Z[j] = z at ez hz htk
        generalize N[j] = n at en htk
        obtain ⟨k, rfl, hk⟩ : ∃ k : Nat, z = (k : Int) ∧ k ≤ 6 := ⟨z.toNat, by omega, by omega⟩
        have hsz0 := hsz.out
        have P := fun w' => rput_at t n k (by omega) (by omega) w'
        rw [show addP t ((k : Int), n) = catB t (putB n k) from rfl] at htk
        have hs2 : (catB t (putB n k)).size ≤ 1 + 6 * (j + 1) := by rw [catB_size, putB_len]; omega
        generalize catB t (putB n k) = t2 at P htk hs2
        clear hz ht hsz hsz0
        replace P := Lib.hid P; replace htk := Lib.hid htk; replace hs2 := Lib.hid hs2; replace hk := Lib.hid hk
        go_wp2_with fail
        refine wp_region_near (by kernel_rfl) (by kernel_rfl) ?_
        intro hs
        repeat (go_big_quiet_step ((go_at_call 33; exact Calls.near (by simp) (P.out _))))
        refine wpQuiet_nil ?_
        clear hs
        intro w5 hb5
        have H6 := hst.out.thru hb5
        clear P hst
        replace H6 := Lib.hid H6
        go_wp2_with fail
        go_roundg (5 - (j + 1))
        case measure => have := hg.out; omega
        case rel => exact ⟨j + 1, t2, by omega, Lib.hid rfl, by go_num, rfl, htk, hs2, H6⟩
      · have hlt' : ¬ (j : Int) < 5 := by omega
        have hj2 : (Z.zip N).take j = Z.zip N := List.take_of_length_le (by rw [List.length_zip]; omega)
        rw [hj2, ← hT.out] at ht
        have hszt : t.size ≤ 100 := by have := hsz.out; omega
        clear hj2 hsz hT
        obtain ⟨zo, co, fo⟩ := hst.out.box 2 rfl
        obtain ⟨zm, cm, fm⟩ := hst.out.box 3 rfl
        have H0 := hst.out.front 2 rfl
        have H7 := ((((H0).set 0 rfl 0 (.int .i64 46) (by simp))).set 0 rfl 1 (.string (t ++ dat)) (by simp))
        clear H0
        replace H7 := Lib.hid H7
        go_wp2_with fail
        exact bodyPost_ret (v := .tuple #[.agg #[.int .i64 46, .string (t ++ dat)], .int .i64 0]) (by simp [results, Try.results8, go_sem, zo, co, fo]) rfl (H7.out.ret (by rw [ht.out]))
  · have hv : rputV m = ((0, ⟨#[]⟩), rcheckM m) := by unfold rputV; rw [if_neg hc]
    rw [hv]
    have q0 : (rcheckM m != 0) = true := by simpa using hc
    have q1 : decide (rcheckM m = 0) = false := decide_eq_false hc
    clear hv hc
    generalize rcheckM m = c at *
    obtain ⟨kind, addr, prio, num, token, nonce, dat⟩ := m
    unfold encM at *
    replace H := Lib.hid H; replace P := Lib.hid P; replace hd := Lib.hid hd
    go_enter Try.func8, Try.ntmps8
    go_wp2_with fail
    refine Calls.mono (P.out _) ?_
    rintro e w1 ⟨rfl, hb1⟩
    have z1 := Below.size hb1; try simp only [World.size_alloc, World.size_setCell, World.size_drew] at z1
    have H1 := H.out.thru hb1
    obtain ⟨zo, co, fo⟩ := H1.box 0 rfl
    have H5 := ((((H1).set 0 rfl 0 (.int .i64 0) (by simp))).set 0 rfl 1 (.string ⟨#[]⟩) (by simp))
    clear P H H1
    replace H5 := Lib.hid H5
    go_wp2_with fail
    exact bodyPost_ret (v := .tuple #[.agg #[.int .i64 0, .string ⟨#[]⟩], .int .i64 c]) (by simp [results, Try.results8, go_sem, zo, co, fo]) rfl (H5.out.ret rfl)
end Go.Proofs.Ytpajedpkdfacoaa.Mp
