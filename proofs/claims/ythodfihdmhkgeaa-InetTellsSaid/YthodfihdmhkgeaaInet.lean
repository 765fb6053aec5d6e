/- The walks of the package inet: the sum of parts. -/
import Derived.Test.YthodfihdmhkgeaaOctetsRead
import Derived.Test.YthodfihdmhkgeaaInetPlain
import Derived.Test.YthodfihdmhkgeaaRd
import Derived.Deep.LoopGhost
import Derived.Deep.DeepCutAuto
namespace Go.Proofs.Ythodfihdmhkgeaa.Inet
set_option linter.unusedSimpArgs false
set_option linter.unusedVariables false
open Go Go.RowKit Go.Proofs.Ythodfihdmhkgeaa Go.Proofs.Ythodfihdmhkgeaa.Octets
attribute [local irreducible] Calls
attribute [local go_sem] and_mask

theorem onew_any (s : ByteArray) (w : World) :
    Calls Try.prog 75 #[.string s] w (fun e w' => e = .returned (.pointer (some ⟨w.heap.size, 0, none⟩)) ∧ Below w.heap.size w w' ∧ Box w' w.heap.size (cut s 0 0)) := by
  go_enter Try.func75, Try.ntmps75
  go_wp2_with fail
  go_ret
  exact ⟨rfl, (by repeat (first | with_reducible exact Below.refl _ _ | (with_reducible refine Below.al ?_) | (with_reducible refine Below.drew ?_) | (with_reducible refine Below.set ?_ (by first | (simp; done) | omega | (simp; omega))) | (with_reducible refine Below.thru ?_ (by assumption)) | (with_reducible refine Below.chg ?_ (by assumption) (by first | (simp; done) | omega | (simp; omega))))), by unfold cut; exact (by (try rw [show ((0 : Nat) : Int) = 0 from rfl]); repeat (first | fail | (with_reducible refine Box.below ?_ (by assumption)) | (with_reducible refine Box.drew ?_) | (with_reducible refine Box.new_at (by first | rfl | (simp; done) | omega)) | (with_reducible refine Box.al ?_) | (with_reducible apply Box.set0) | (with_reducible apply Box.set1) | (with_reducible apply Box.set2) | (with_reducible apply Box.set3) | (with_reducible apply Box.set4) | (with_reducible apply Box.set5) | (with_reducible apply Box.set6) | (with_reducible apply Box.set7) | (with_reducible apply Box.set8) | (with_reducible refine Box.oth ?_ (by first | (simp; done) | omega | (simp; omega))) | (with_reducible refine Box.chg ?_ (by assumption) (by first | (simp; done) | omega | (simp; omega)))))⟩
theorem num_two (s : ByteArray) (k : Nat) (h : k + 1 < s.size) : numV s k 0 2 = 256 * ((s.data.toList[k]'(by simpa using Nat.lt_of_succ_lt h)).toNat : Int) + ((s.data.toList[k + 1]'(by simpa using h)).toNat : Int) ∧ numA s k 0 2 = k + 2 ∧ numF s k 0 2 = 0 := by
  have hT : takeF s k 0 2 (bad 2) = 0 := by
    have : bad 2 = false := by decide
    rw [this]; unfold takeF; simp; omega
  refine ⟨?_, by simp [numA, hT], by simp only [numF, hT]⟩
  have h1 : k < s.data.toList.length := by simp; exact Nat.lt_of_succ_lt h
  have h2 : k + 1 < s.data.toList.length := by simpa using h
  have he : (s.extract k (k + (2 : Int).toNat)).data.toList = [s.data.toList[k], s.data.toList[k + 1]] := by
    have : (s.extract k (k + 2)).data.toList = (s.data.toList.drop k).take 2 := by rw [ByteArray.data_extract, Array.toList_extract, List.extract_eq_take_drop, show k + 2 - k = 2 by omega]
    rw [show (2 : Int).toNat = 2 from rfl, this, List.drop_eq_getElem_cons h1, List.drop_eq_getElem_cons h2]
    rfl
  unfold numV
  rw [if_pos hT, he]
  have b1 := (s.data.toList[k]).toNat_lt
  have b2 := (s.data.toList[k + 1]).toNat_lt
  simp only [ofB, List.foldl_cons, List.foldl_nil, wrap64]
  omega

theorem fold_any (n : Int) (h0 : 0 ≤ n) (h1 : n ≤ 1000000000000000) (w : World) : Calls Try.prog 77 #[.int .i64 n] w (Ret w (.int .i64 (ocI n))) := by
  go_enter Try.func77, Try.ntmps77
  go_wp2_with fail
  go_loopg [0] n.toNat (fun g i wr => ∃ x : Int, i = .int .i64 x ∧ 0 ≤ x ∧ x ≤ n ∧ Hid (ocI x = ocI n) ∧ g = x.toNat ∧ Below w.heap.size w wr)
  case atStart => exact ⟨n, rfl, h0, Int.le_refl _, rfl, rfl, (by repeat (first | with_reducible exact Below.refl _ _ | (with_reducible refine Below.al ?_) | (with_reducible refine Below.drew ?_) | (with_reducible refine Below.set ?_ (by first | (simp; done) | omega | (simp; omega))) | (with_reducible refine Below.thru ?_ (by assumption)) | (with_reducible refine Below.chg ?_ (by assumption) (by first | (simp; done) | omega | (simp; omega)))))⟩
  case round =>
    obtain ⟨x, rfl, hx0, hx1, hoc, hg, hbw⟩ := hrel
    by_cases hlt : 65535 < x
    · have q : decide (65535 < x) = true := decide_eq_true hlt
      have hoc' : Hid (ocI (x % 65536 + x / 65536) = ocI n) := (ocI_fold x hlt).trans hoc.out
      go_wp2_with fail
      go_roundg (x % 65536 + x / 65536).toNat
      case measure => omega
      case rel => exact ⟨x % 65536 + x / 65536, by first | rfl | go_num, by omega, by omega, hoc'.out, rfl, (by repeat (first | with_reducible exact Below.refl _ _ | (with_reducible refine Below.al ?_) | (with_reducible refine Below.drew ?_) | (with_reducible refine Below.set ?_ (by first | (simp; done) | omega | (simp; omega))) | (with_reducible refine Below.thru ?_ (by assumption)) | (with_reducible refine Below.chg ?_ (by assumption) (by first | (simp; done) | omega | (simp; omega)))))⟩
    · have q : decide (65535 < x) = false := decide_eq_false hlt
      have e : x = ocI n := by rw [← hoc.out, ocI_small x hx0 (by omega)]
      replace e := Lib.hid e
      go_wp2_with fail
      go_ret
      exact Ret.mk (congrArg (Value.int .i64) e.out) (by repeat (first | with_reducible exact Below.refl _ _ | (with_reducible refine Below.al ?_) | (with_reducible refine Below.drew ?_) | (with_reducible refine Below.set ?_ (by first | (simp; done) | omega | (simp; omega))) | (with_reducible refine Below.thru ?_ (by assumption)) | (with_reducible refine Below.chg ?_ (by assumption) (by first | (simp; done) | omega | (simp; omega)))))

set_option maxRecDepth 100000 in
set_option maxHeartbeats 1000000 in
theorem sum_any (ps : List ByteArray) (n : Nat) (hl : ps.length = n) (hn : n ≤ 100000) (hsz : ∀ s ∈ ps, s.size ≤ 100000000) (a : Option Addr) (cap : Nat) (w : World) (h : Rd w a (strs ps)) :
    Calls Try.prog 40 #[.slice a n cap] w (Ret w (.int .i64 (sumV (wsum ps)))) := by
  replace hl := Lib.hid hl; replace hsz := Lib.hid hsz; replace h := Lib.hid h
  go_enter Try.func40, Try.ntmps40
  go_wp2_with fail
  go_loopg [3, 5, 6, 9] n (fun g acc _ _ i wr => ∃ k : Nat, k ≤ n ∧ g = n - k ∧ i = .int .i64 k ∧ acc = .int .i64 (ocI (wsum (ps.take k) : Int)) ∧ Below w.heap.size w wr)
  case atStart => exact ⟨0, by omega, by omega, rfl, rfl, (by repeat (first | with_reducible exact Below.refl _ _ | (with_reducible refine Below.al ?_) | (with_reducible refine Below.drew ?_) | (with_reducible refine Below.set ?_ (by first | (simp; done) | omega | (simp; omega))) | (with_reducible refine Below.thru ?_ (by assumption)) | (with_reducible refine Below.chg ?_ (by assumption) (by first | (simp; done) | omega | (simp; omega)))))⟩
  case round =>
    obtain ⟨k, hk, hg, rfl, rfl, hbw⟩ := hrel
    have zw := hbw.size
    by_cases hlt : k < n
    · have hkl : k < ps.length := by have := hl.out; omega
      obtain ⟨b, off, rfl, hb, hc⟩ := (h.out.below hbw).cons (strs_ne hl.out hlt)
      have e0 := hc k _ (strs_at hkl)
      have hs := hsz.out ps[k] (List.getElem_mem hkl)
      have hnx := wsum_take hkl
      clear hc
      generalize ps[k] = p at *
      obtain ⟨W0, hW0⟩ : ∃ W0 : Nat, W0 = wsum (ps.take k) := ⟨_, rfl⟩
      rw [← hW0] at hnx ⊢
      by_cases hodd : p.size % 2 = 0
      · have q : ((p.size : Int) % 2 != 0) = false := by simp; omega
        have heven := Lib.hid hodd
        clear hodd
        replace hnx := Lib.hid hnx; replace hW0 := Lib.hid hW0
        go_wp2_with fail
        obtain ⟨wo, hwo⟩ : ∃ wo : World, wo = wr := ⟨_, rfl⟩
        subst hwo
        refine Calls.mono (onew_any p _) ?_
        rintro e w2 ⟨rfl, hbN, hBN⟩
        have hBN' := Lib.hid hBN
        clear hBN
        go_wp2_with fail
        go_loopg [3] (p.size) (fun g acc wx => ∃ j : Nat, j % 2 = 0 ∧ j ≤ p.size ∧ g = p.size - j ∧ acc = .int .i64 (ocI ((W0 : Int) + (words (p.data.toList.take j) : Int))) ∧ Below wo.heap.size wo wx ∧ Box wx wo.heap.size (cut p j 0))
        case atStart => exact ⟨0, by omega, by omega, by omega, by simp [words], hbN, hBN'.out⟩
        case round =>
          obtain ⟨j, hj2, hj, hgj, rfl, hbx, hBx⟩ := hrel
          have HBx := Lib.hid hBx
          obtain ⟨zx, _, _⟩ := hBx
          have hok : okCut p j 0 := ⟨hj, by omega, by omega, by omega⟩
          have hok' := Lib.hid hok
          clear hok
          by_cases hlt2 : j < p.size
          · have hj1 : j + 1 < p.size := by have := heven.out; omega
            obtain ⟨t1, t2, t3⟩ := num_two p j hj1
            have hw2 := words_two p.data.toList j hj2 (by simpa using hj1)
            have hb1 := (p.data.toList[j]'(by simpa using hlt2)).toNat_lt
            have hb2 := (p.data.toList[j + 1]'(by simpa using hj1)).toNat_lt
            have hoc := ocI_bd ((W0 : Int) + (words (p.data.toList.take j) : Int))
            obtain ⟨v, hv⟩ : ∃ v : Int, v = 256 * ((p.data.toList[j]'(by simpa using hlt2)).toNat : Int) + ((p.data.toList[j + 1]'(by simpa using hj1)).toNat : Int) := ⟨_, rfl⟩
            have hv0 : 0 ≤ v ∧ v ≤ 65535 := by omega
            have hnx2 : ocI ((W0 : Int) + (words (p.data.toList.take (j + 2)) : Int)) = ocI (ocI ((W0 : Int) + (words (p.data.toList.take j) : Int)) + v) := by
              rw [ocI_add _ _ (by omega) hv0.1, hw2, hv]; congr 1; omega
            rw [← hv] at t1
            have hsz2 : decide ((0 : Int) < (p.size : Int) - j) = true := decide_eq_true (by omega)
            clear hw2 hb1 hb2 hv
            replace t1 := Lib.hid t1; replace t2 := Lib.hid t2; replace t3 := Lib.hid t3
            generalize ocI ((W0 : Int) + (words (p.data.toList.take j) : Int)) = acc at *
            replace hnx2 := Lib.hid hnx2
            obtain ⟨hv0, hv1⟩ := hv0
            obtain ⟨ha0, ha1⟩ := hoc
            go_wp2_with fail
            refine Calls.mono (left_any wo.heap.size p j 0 _ HBx.out hok'.out) ?_
            rintro e w6 ⟨rfl, hb6⟩
            have z6 := Below.size hb6; try simp only [World.size_alloc, World.size_setCell, World.size_drew] at z6
            obtain ⟨c6_0, f6_0⟩ := Below.blk hb6 (b := wo.heap.size) (by first | (simp; done) | omega | (simp; omega))
            have z6_0 : wo.heap.size < w6.heap.size := (by first | (simp; done) | omega | (simp; omega))
            have HB6 := Lib.hid (HBx.out.below hb6)
            have P := num_any wo.heap.size p j 0 2 _ HB6.out hok'.out (by omega)
            rw [t1.out, t2.out, t3.out] at P
            go_wp2_with fail
            refine Calls.mono P ?_
            rintro e w7 ⟨rfl, hg7, hB7⟩
            have hb7 : Below wo.heap.size wo w7 := Below.chg (by repeat (first | with_reducible exact Below.refl _ _ | (with_reducible refine Below.al ?_) | (with_reducible refine Below.drew ?_) | (with_reducible refine Below.set ?_ (by first | (simp; done) | omega | (simp; omega))) | (with_reducible refine Below.thru ?_ (by assumption)) | (with_reducible refine Below.chg ?_ (by assumption) (by first | (simp; done) | omega | (simp; omega))))) hg7 (Nat.le_refl _)
            have HB7 := Lib.hid hB7
            obtain ⟨z7, _, _⟩ := hB7
            clear P t1 t2 t3
            go_wp2_with fail
            refine Calls.mono (fold_any (acc + v) (by omega) (by omega) _) ?_
            rintro e w8 ⟨rfl, hb8⟩
            have z8 := Below.size hb8; try simp only [World.size_alloc, World.size_setCell, World.size_drew] at z8
            obtain ⟨c8_0, f8_0⟩ := Below.blk hb8 (b := wo.heap.size) (by first | (simp; done) | omega | (simp; omega))
            have z8_0 : wo.heap.size < w8.heap.size := (by first | (simp; done) | omega | (simp; omega))
            go_wp2_with fail
            go_roundg (p.size - (j + 2))
            case measure => omega
            case rel => exact ⟨j + 2, by omega, by omega, rfl, by rw [hnx2.out], (by repeat (first | with_reducible exact Below.refl _ _ | (with_reducible refine Below.al ?_) | (with_reducible refine Below.drew ?_) | (with_reducible refine Below.set ?_ (by first | (simp; done) | omega | (simp; omega))) | (with_reducible refine Below.thru ?_ (by assumption)) | (with_reducible refine Below.chg ?_ (by assumption) (by first | (simp; done) | omega | (simp; omega))))), HB7.out.below hb8⟩
          · obtain rfl : j = p.size := by omega
            have hte : p.data.toList.take p.size = p.data.toList := List.take_of_length_le (by simp)
            have hsz2 : decide ((0 : Int) < (p.size : Int) - (p.size : Nat)) = false := decide_eq_false (by omega)
            rw [hte]
            clear hte
            go_wp2_with fail
            refine Calls.mono (left_any wo.heap.size p p.size 0 _ HBx.out hok'.out) ?_
            rintro e w6 ⟨rfl, hb6⟩
            have z6 := Below.size hb6; try simp only [World.size_alloc, World.size_setCell, World.size_drew] at z6
            obtain ⟨c6_0, f6_0⟩ := Below.blk hb6 (b := wo.heap.size) (by first | (simp; done) | omega | (simp; omega))
            have z6_0 : wo.heap.size < w6.heap.size := (by first | (simp; done) | omega | (simp; omega))
            go_wp2_with fail
            go_roundg (n - (k + 1))
            case measure => omega
            case rel => exact ⟨k + 1, by omega, rfl, by go_num, by rw [hnx.out, Int.natCast_add], (by repeat (first | with_reducible exact Below.refl _ _ | (with_reducible refine Below.al ?_) | (with_reducible refine Below.drew ?_) | (with_reducible refine Below.set ?_ (by first | (simp; done) | omega | (simp; omega))) | (with_reducible refine Below.thru ?_ (by assumption)) | (with_reducible refine Below.chg ?_ (by assumption) (by first | (simp; done) | omega | (simp; omega)))))⟩
      · have q : ((p.size : Int) % 2 != 0) = true := by simp; omega
        obtain ⟨p2, hp2⟩ : ∃ p2 : ByteArray, p2 = p ++ ⟨#[0]⟩ := ⟨_, rfl⟩
        have hd2 : p2.data.toList = p.data.toList ++ [0] := by rw [hp2]; simp [ByteArray.data_append]
        have hs2 : p2.size = p.size + 1 := by rw [hp2]; simp [ByteArray.size_append]; rfl
        have heven : Hid (p2.size % 2 = 0) := by show _ = _; omega
        have hwp : words p2.data.toList = words p.data.toList := by rw [hd2, words_pad]
        have hs2' : p2.size ≤ 100000001 := by omega
        rw [← hwp] at hnx
        clear hd2 hs2 hwp hodd
        replace hnx := Lib.hid hnx; replace hW0 := Lib.hid hW0; replace hp2 := Lib.hid hp2
        go_wp2_with fail
        rw [← hp2.out]
        obtain ⟨wo, hwo⟩ : ∃ wo : World, wo = wr := ⟨_, rfl⟩
        subst hwo
        refine Calls.mono (onew_any p2 _) ?_
        rintro e w2 ⟨rfl, hbN, hBN⟩
        have hBN' := Lib.hid hBN
        clear hBN
        go_wp2_with fail
        go_loopg [3] (p2.size) (fun g acc wx => ∃ j : Nat, j % 2 = 0 ∧ j ≤ p2.size ∧ g = p2.size - j ∧ acc = .int .i64 (ocI ((W0 : Int) + (words (p2.data.toList.take j) : Int))) ∧ Below wo.heap.size wo wx ∧ Box wx wo.heap.size (cut p2 j 0))
        case atStart => exact ⟨0, by omega, by omega, by omega, by simp [words], hbN, hBN'.out⟩
        case round =>
          obtain ⟨j, hj2, hj, hgj, rfl, hbx, hBx⟩ := hrel
          have HBx := Lib.hid hBx
          obtain ⟨zx, _, _⟩ := hBx
          have hok : okCut p2 j 0 := ⟨hj, by omega, by omega, by omega⟩
          have hok' := Lib.hid hok
          clear hok
          by_cases hlt2 : j < p2.size
          · have hj1 : j + 1 < p2.size := by have := heven.out; omega
            obtain ⟨t1, t2, t3⟩ := num_two p2 j hj1
            have hw2 := words_two p2.data.toList j hj2 (by simpa using hj1)
            have hb1 := (p2.data.toList[j]'(by simpa using hlt2)).toNat_lt
            have hb2 := (p2.data.toList[j + 1]'(by simpa using hj1)).toNat_lt
            have hoc := ocI_bd ((W0 : Int) + (words (p2.data.toList.take j) : Int))
            obtain ⟨v, hv⟩ : ∃ v : Int, v = 256 * ((p2.data.toList[j]'(by simpa using hlt2)).toNat : Int) + ((p2.data.toList[j + 1]'(by simpa using hj1)).toNat : Int) := ⟨_, rfl⟩
            have hv0 : 0 ≤ v ∧ v ≤ 65535 := by omega
            have hnx2 : ocI ((W0 : Int) + (words (p2.data.toList.take (j + 2)) : Int)) = ocI (ocI ((W0 : Int) + (words (p2.data.toList.take j) : Int)) + v) := by
              rw [ocI_add _ _ (by omega) hv0.1, hw2, hv]; congr 1; omega
            rw [← hv] at t1
            have hsz2 : decide ((0 : Int) < (p2.size : Int) - j) = true := decide_eq_true (by omega)
            clear hw2 hb1 hb2 hv
            replace t1 := Lib.hid t1; replace t2 := Lib.hid t2; replace t3 := Lib.hid t3
            generalize ocI ((W0 : Int) + (words (p2.data.toList.take j) : Int)) = acc at *
            replace hnx2 := Lib.hid hnx2
            obtain ⟨hv0, hv1⟩ := hv0
            obtain ⟨ha0, ha1⟩ := hoc
            go_wp2_with fail
            refine Calls.mono (left_any wo.heap.size p2 j 0 _ HBx.out hok'.out) ?_
            rintro e w6 ⟨rfl, hb6⟩
            have z6 := Below.size hb6; try simp only [World.size_alloc, World.size_setCell, World.size_drew] at z6
            obtain ⟨c6_0, f6_0⟩ := Below.blk hb6 (b := wo.heap.size) (by first | (simp; done) | omega | (simp; omega))
            have z6_0 : wo.heap.size < w6.heap.size := (by first | (simp; done) | omega | (simp; omega))
            have HB6 := Lib.hid (HBx.out.below hb6)
            have P := num_any wo.heap.size p2 j 0 2 _ HB6.out hok'.out (by omega)
            rw [t1.out, t2.out, t3.out] at P
            go_wp2_with fail
            refine Calls.mono P ?_
            rintro e w7 ⟨rfl, hg7, hB7⟩
            have hb7 : Below wo.heap.size wo w7 := Below.chg (by repeat (first | with_reducible exact Below.refl _ _ | (with_reducible refine Below.al ?_) | (with_reducible refine Below.drew ?_) | (with_reducible refine Below.set ?_ (by first | (simp; done) | omega | (simp; omega))) | (with_reducible refine Below.thru ?_ (by assumption)) | (with_reducible refine Below.chg ?_ (by assumption) (by first | (simp; done) | omega | (simp; omega))))) hg7 (Nat.le_refl _)
            have HB7 := Lib.hid hB7
            obtain ⟨z7, _, _⟩ := hB7
            clear P t1 t2 t3
            go_wp2_with fail
            refine Calls.mono (fold_any (acc + v) (by omega) (by omega) _) ?_
            rintro e w8 ⟨rfl, hb8⟩
            have z8 := Below.size hb8; try simp only [World.size_alloc, World.size_setCell, World.size_drew] at z8
            obtain ⟨c8_0, f8_0⟩ := Below.blk hb8 (b := wo.heap.size) (by first | (simp; done) | omega | (simp; omega))
            have z8_0 : wo.heap.size < w8.heap.size := (by first | (simp; done) | omega | (simp; omega))
            go_wp2_with fail
            go_roundg (p2.size - (j + 2))
            case measure => omega
            case rel => exact ⟨j + 2, by omega, by omega, rfl, by rw [hnx2.out], (by repeat (first | with_reducible exact Below.refl _ _ | (with_reducible refine Below.al ?_) | (with_reducible refine Below.drew ?_) | (with_reducible refine Below.set ?_ (by first | (simp; done) | omega | (simp; omega))) | (with_reducible refine Below.thru ?_ (by assumption)) | (with_reducible refine Below.chg ?_ (by assumption) (by first | (simp; done) | omega | (simp; omega))))), HB7.out.below hb8⟩
          · obtain rfl : j = p2.size := by omega
            have hte : p2.data.toList.take p2.size = p2.data.toList := List.take_of_length_le (by simp)
            have hsz2 : decide ((0 : Int) < (p2.size : Int) - (p2.size : Nat)) = false := decide_eq_false (by omega)
            rw [hte]
            clear hte
            go_wp2_with fail
            refine Calls.mono (left_any wo.heap.size p2 p2.size 0 _ HBx.out hok'.out) ?_
            rintro e w6 ⟨rfl, hb6⟩
            have z6 := Below.size hb6; try simp only [World.size_alloc, World.size_setCell, World.size_drew] at z6
            obtain ⟨c6_0, f6_0⟩ := Below.blk hb6 (b := wo.heap.size) (by first | (simp; done) | omega | (simp; omega))
            have z6_0 : wo.heap.size < w6.heap.size := (by first | (simp; done) | omega | (simp; omega))
            go_wp2_with fail
            go_roundg (n - (k + 1))
            case measure => omega
            case rel => exact ⟨k + 1, by omega, rfl, by go_num, by rw [hnx.out, Int.natCast_add], (by repeat (first | with_reducible exact Below.refl _ _ | (with_reducible refine Below.al ?_) | (with_reducible refine Below.drew ?_) | (with_reducible refine Below.set ?_ (by first | (simp; done) | omega | (simp; omega))) | (with_reducible refine Below.thru ?_ (by assumption)) | (with_reducible refine Below.chg ?_ (by assumption) (by first | (simp; done) | omega | (simp; omega)))))⟩
    · have e : ps.take k = ps := List.take_of_length_le (by have := hl.out; omega)
      rw [e]
      have hoc := ocI_bd (wsum ps : Int)
      have hx := xor_mask (ocI (wsum ps : Int)) hoc.1 hoc.2
      clear e
      unfold sumV
      go_wp2_with fail
      go_ret
      exact Ret.mk (congrArg (Value.int .i64) (by first | rfl | exact hx)) (by repeat (first | with_reducible exact Below.refl _ _ | (with_reducible refine Below.al ?_) | (with_reducible refine Below.drew ?_) | (with_reducible refine Below.set ?_ (by first | (simp; done) | omega | (simp; omega))) | (with_reducible refine Below.thru ?_ (by assumption)) | (with_reducible refine Below.chg ?_ (by assumption) (by first | (simp; done) | omega | (simp; omega)))))

theorem patch_any (s o n : Int) (w : World) : Calls Try.prog 42 #[.int .i64 s, .int .i64 o, .int .i64 n] w (Ret w (.int .i64 (65535 - ocI (65535 - s % 65536 + (65535 - o % 65536) + n % 65536)))) := by
  have x1 := xor_mask (s % 65536) (by omega) (by omega)
  have x2 := xor_mask (o % 65536) (by omega) (by omega)
  have hs : 0 ≤ s % 65536 ∧ s % 65536 ≤ 65535 := by omega
  have ho : 0 ≤ o % 65536 ∧ o % 65536 ≤ 65535 := by omega
  have hn : 0 ≤ n % 65536 ∧ n % 65536 ≤ 65535 := by omega
  have hoc := ocI_bd (65535 - s % 65536 + (65535 - o % 65536) + n % 65536)
  have x3 := xor_mask _ hoc.1 hoc.2
  obtain ⟨hs0, hs1⟩ := hs
  obtain ⟨ho0, ho1⟩ := ho
  obtain ⟨hn0, hn1⟩ := hn
  go_enter Try.func42, Try.ntmps42
  go_wp2_with fail
  refine Calls.mono (fold_any _ (by omega) (by omega) _) ?_
  rintro e w1 ⟨rfl, hb1⟩
  have z1 := Below.size hb1; try simp only [World.size_alloc, World.size_setCell, World.size_drew] at z1
  go_wp2_with fail
  go_ret
  exact Ret.mk rfl (by repeat (first | with_reducible exact Below.refl _ _ | (with_reducible refine Below.al ?_) | (with_reducible refine Below.drew ?_) | (with_reducible refine Below.set ?_ (by first | (simp; done) | omega | (simp; omega))) | (with_reducible refine Below.thru ?_ (by assumption)) | (with_reducible refine Below.chg ?_ (by assumption) (by first | (simp; done) | omega | (simp; omega)))))
end Go.Proofs.Ythodfihdmhkgeaa.Inet
