/- The walk of the document's Get. -/
import Derived.Test.YtpajedpkdfacoaaMpBack
import Derived.Test.YtpajedpkdfacoaaOptsCheck2
namespace Go.Proofs.Ytpajedpkdfacoaa.Mp
set_option linter.unusedSimpArgs false
set_option linter.unusedVariables false
open Go Go.RowKit Go.Shelf Go.Proofs.Ytpajedpkdfacoaa Go.Proofs.Ytpajedpkdfacoaa.Octets
attribute [local irreducible] Calls

/-- The numbers under way: those read, how far, what failed. -/
structure Rn where
  l : List Int
  at_ : Nat
  fell : Int
def stepN (t : ByteArray) (s : Rn) (iz : Nat × Int) : Rn := if 0 < iz.2 then ⟨s.l.set iz.1 (numV t s.at_ s.fell iz.2), numA t s.at_ s.fell iz.2, numF t s.at_ s.fell iz.2⟩ else s
def foldN (t : ByteArray) (z : List Int) (j : Nat) : Rn := (List.range j).foldl (fun s i => stepN t s (i, z.getD i 0)) ⟨[0, 0, 0, 0, 0], 1, 0⟩
theorem foldN_succ (t : ByteArray) (z : List Int) (j : Nat) : foldN t z (j + 1) = stepN t (foldN t z j) (j, z.getD j 0) := by
  unfold foldN
  rw [List.range_succ, List.foldl_append]
  rfl
theorem stepN_len (t : ByteArray) (s : Rn) (iz : Nat × Int) : (stepN t s iz).l.length = s.l.length := by
  unfold stepN
  split <;> simp
theorem stepN_ok (t : ByteArray) (s : Rn) (iz : Nat × Int) (h : okCut t s.at_ s.fell) : okCut t (stepN t s iz).at_ (stepN t s iz).fell := by
  unfold stepN
  split
  · exact num_ok _ _ _ _ h
  · exact h
def rn6 (t : ByteArray) (a : Nat) (z5 z6 : Int) : Int := if z6 ≤ (t.size : Int) - a then z6 else z5
def datR (t : ByteArray) (a : Nat) (f : Int) (z5 z6 : Int) : ByteArray × Nat × Int :=
  if 0 < z6 then (bytesV t a f (rn6 t a z5 z6), bytesA t a f (rn6 t a z5 z6), bytesF t a f (rn6 t a z5 z6)) else (⟨#[]⟩, a, f)
def rgetV (k : Int) (t : ByteArray) (kd : Int) : Mu × Int :=
  if k ≠ 46 then (zeroM, 7)
  else if t.size = 0 then (zeroM, 1)
  else if knownM kd = false then (zeroM, 7)
  else
    let s := foldN t (sizesM kd) 5
    let d := datR t s.at_ s.fell ((sizesM kd).getD 5 0) ((sizesM kd).getD 6 0)
    if doneF t d.2.1 d.2.2 = 0 then (⟨kd, s.l.getD 0 0, s.l.getD 1 0, s.l.getD 4 0, s.l.getD 2 0, s.l.getD 3 0, d.1⟩, 0) else (zeroM, doneF t d.2.1 d.2.2)
theorem sizes_all (k : Int) : ∀ j (h : j < (sizesM k).length), 0 ≤ (sizesM k)[j] ∧ (sizesM k)[j] ≤ 100 := by
  rcases kinds_or k with rfl | rfl | rfl | rfl | rfl | rfl | rfl | rfl | rfl | rfl | rfl | hn
  all_goals first | decide | skip
  have : sizesM k = [0, 0, 0, 0, 0, 0, 0] := by
    have h := fun j hj => hn j hj
    unfold sizesM
    repeat' split
    all_goals first | rfl | (rename_i h1; first | exact absurd h1 (hn _ (by decide)) | (rcases h1 with h1 | h1 <;> exact absurd h1 (hn _ (by decide))))
  rw [this]
  decide
set_option maxRecDepth 100000 in
set_option maxHeartbeats 2000000 in
theorem rget_any (k : Int) (t : ByteArray) (ht : t.size ≤ 900000000) (w : World) (kd : Int) (hkd : ∀ h : 0 < t.size, kd = ((t[0]).toNat : Int)) :
    Calls Try.prog 13 #[.agg #[.int .i64 k, .string t]] w (Ret w (.tuple #[.agg (encM (rgetV k t kd).1).toArray, .int .i64 (rgetV k t kd).2])) := by
  have H := ((St.zero w).alloc [.int .i64 k, .string t] 26).alloc [.int .i64 0, .int .i64 0, .int .i64 0, .int .i64 0, .int .i64 0, .int .i64 0, .string ⟨#[]⟩] 23
  simp only [World.size_alloc] at H
  by_cases hk : k = 46
  · subst hk
    by_cases h0 : t.size = 0
    · have hv : rgetV 46 t kd = (zeroM, 1) := by unfold rgetV; rw [if_neg (by simp), if_pos h0]
      have q : t.toList.isEmpty = true := by rw [Opts.str_emp, decide_eq_true h0]
      have hv1 : (rgetV 46 t kd).1 = zeroM := by rw [hv]
      rw [hv]
      clear hv hv1 hkd h0
      replace H := Lib.hid H; replace ht := Lib.hid ht
      go_enter Try.func13, Try.ntmps13
      go_wp2_with fail
      exact bodyPost_ret (v := .tuple #[.agg (encM zeroM).toArray, .int .i64 1]) (by simp [results, Try.results13, go_sem, encM, zeroM]) rfl (H.out.ret rfl)
    · have q : t.toList.isEmpty = false := by rw [Opts.str_emp, decide_eq_false h0]
      have hp : 0 < t.size := by omega
      have hk0 := hkd hp
      have hb := (t[0]).toNat_lt
      obtain rfl := hk0
      clear hkd
      have PK := fun W => known_any ((t[0]).toNat : Int) W
      cases hkn : knownM ((t[0]).toNat : Int) with
      | false =>
        have hv : rgetV 46 t ((t[0]).toNat : Int) = (zeroM, 7) := by unfold rgetV; rw [if_neg (by simp), if_neg h0, if_pos hkn]
        rw [hv]
        simp only [hkn] at PK
        clear hv hkn
        replace PK := Lib.hid PK; replace H := Lib.hid H; replace h0 := Lib.hid h0
        go_enter Try.func13, Try.ntmps13
        go_wp2_with fail
        refine Calls.mono (PK.out _) ?_
        rintro e w1 ⟨rfl, hb1⟩
        have z1 := Below.size hb1; try simp only [World.size_alloc, World.size_setCell, World.size_drew] at z1
        have H1 := H.out.thru hb1
        clear PK H
        obtain ⟨zo, co, fo⟩ := H1.box 0 rfl
        have H0 : St w none0 _ (cellA (w.heap.size + 1) [.int .i64 0, .int .i64 0, .int .i64 0, .int .i64 0, .int .i64 0, .int .i64 0, .string ⟨#[]⟩] :: _) := H1.front 0 rfl
        have H5 := ((((((((((((((H0).set 0 rfl 0 (.int .i64 zeroM.kind) (by simp))).set 0 rfl 1 (.int .i64 zeroM.addr) (by simp))).set 0 rfl 2 (.int .i64 zeroM.prio) (by simp))).set 0 rfl 3 (.int .i64 zeroM.num) (by simp))).set 0 rfl 4 (.int .i64 zeroM.token) (by simp))).set 0 rfl 5 (.int .i64 zeroM.nonce) (by simp))).set 0 rfl 6 (.string zeroM.dat) (by simp))
        clear H0
        simp only [zeroM] at H5
        replace H5 := Lib.hid H5
        go_wp2_with fail
        exact bodyPost_ret (v := .tuple #[.agg #[.int .i64 0, .int .i64 0, .int .i64 0, .int .i64 0, .int .i64 0, .int .i64 0, .string ⟨#[]⟩], .int .i64 7]) (by simp [results, Try.results13, go_sem, zo, co, fo]) rfl (H5.out.ret rfl)
      | true =>
        obtain ⟨R, hR⟩ : ∃ R, R = rgetV 46 t ((t[0]).toNat : Int) := ⟨_, rfl⟩
        rw [← hR]
        unfold rgetV at hR
        rw [if_neg (by simp), if_neg h0, if_neg (by rw [hkn]; simp)] at hR
        simp only [hkn] at PK
        have PS := fun W => sizes_any ((t[0]).toNat : Int) W
        obtain ⟨hZ7, hZ⟩ := sizes_ok ((t[0]).toNat : Int)
        have hz6 := sizes_all ((t[0]).toNat : Int)
        generalize sizesM ((t[0]).toNat : Int) = Z at *
        obtain ⟨a0, a1, a2, a3, a4, a5, a6, hZe⟩ : ∃ a0 a1 a2 a3 a4 a5 a6, Z = [a0, a1, a2, a3, a4, a5, a6] := by
          match Z, hZ7 with
          | [a0, a1, a2, a3, a4, a5, a6], _ => exact ⟨a0, a1, a2, a3, a4, a5, a6, rfl⟩
        rw [hZe] at PS
        simp only [i64s, List.map_cons, List.map_nil] at PS
        have ok1 : okCut t 1 0 := ⟨by omega, ht, by omega, by omega⟩
        clear hkn h0
        replace PK := Lib.hid PK; replace PS := Lib.hid PS; replace H := Lib.hid H; replace hR := Lib.hid hR; replace hZ := Lib.hid hZ; replace hz6 := Lib.hid hz6; replace hZe := Lib.hid hZe; replace hZ7 := Lib.hid hZ7; replace ok1 := Lib.hid ok1
        go_enter Try.func13, Try.ntmps13
        go_wp2_with fail
        refine Calls.mono (PK.out _) ?_
        rintro e w1 ⟨rfl, hb1⟩
        have z1 := Below.size hb1; try simp only [World.size_alloc, World.size_setCell, World.size_drew] at z1
        have H1 := H.out.thru hb1
        obtain ⟨zp1, cp1, fp1⟩ := H1.box 1 rfl
        clear PK H
        replace H1 := Lib.hid H1
        go_wp2_with fail
        refine Calls.mono (PS.out _) ?_
        rintro e w2 ⟨rfl, hb2⟩
        have z2 := Below.size hb2; try simp only [World.size_alloc, World.size_setCell, World.size_drew] at z2
        have H2 := H1.out.thru hb2
        obtain ⟨zp2, cp2, fp2⟩ := H2.box 1 rfl
        clear PS H1 zp1 cp1 fp1
        have H3 := ((H2.alloc [.int .i64 a0, .int .i64 a1, .int .i64 a2, .int .i64 a3, .int .i64 a4, .int .i64 a5, .int .i64 a6] 66).alloc [.string t, .int .i64 1, .int .i64 0] 81).alloc [.int .i64 0, .int .i64 0, .int .i64 0, .int .i64 0, .int .i64 0] 68
        simp only [World.size_alloc] at H3
        have H4 := St.re (l' := [cellA (w2.heap.size + 1) (cut t 1 0), cellA w2.heap.size (i64s Z), cellA (w2.heap.size + 1 + 1) (i64s [0, 0, 0, 0, 0]), cellA (w.heap.size + 1) [.int .i64 0, .int .i64 0, .int .i64 0, .int .i64 0, .int .i64 0, .int .i64 0, .string ⟨#[]⟩], cellA w.heap.size [.int .i64 46, .string t]]) (H3.arrN [1, 2, 0] rfl) (by rw [hZe.out]; rfl)
        clear H3 H2 hb1 hb2
        replace H4 := Lib.hid H4
        go_wp2_with fail
        go_loopg [8] 5 (fun g v8 wr => ∃ (j : Nat) (s : Rn), j ≤ 5 ∧ Hid (g = 5 - j) ∧ v8 = .int .i64 j ∧ Hid (s = foldN t Z j) ∧ s.l.length = 5 ∧ Hid (okCut t s.at_ s.fell) ∧ Hid (St w none0 wr [cellA (w2.heap.size + 1) (cut t s.at_ s.fell), cellA w2.heap.size (i64s Z), cellA (w2.heap.size + 1 + 1) (i64s s.l), cellA (w.heap.size + 1) [.int .i64 0, .int .i64 0, .int .i64 0, .int .i64 0, .int .i64 0, .int .i64 0, .string ⟨#[]⟩], cellA w.heap.size [.int .i64 46, .string t]]))
        case atStart => exact ⟨0, ⟨[0, 0, 0, 0, 0], 1, 0⟩, by omega, Lib.hid rfl, rfl, Lib.hid rfl, rfl, ok1, H4⟩
        case round =>
          obtain ⟨j, s, hj, hg, rfl, hs, hsl, hok, hst⟩ := hrel
          clear H4
          by_cases hlt : j < 5
          · have hjZ : j < Z.length := by have := hZ7.out; omega
            have hsu := foldN_succ t Z j
            rw [← hs.out, List.getD_eq_getElem?_getD, List.getElem?_eq_getElem hjZ, Option.getD_some] at hsu
            have hsl2 := stepN_len t s (j, Z[j])
            have hok2 := stepN_ok t s (j, Z[j]) hok.out
            have hzb := hz6.out j hjZ
            obtain ⟨zz, cz, fz⟩ := hst.out.box 1 rfl
            obtain ⟨zl, cl, fl⟩ := hst.out.box 2 rfl
            have ez := i64_at cz hjZ
            have hlt' : (j : Int) < 5 := by omega
            have hne : ¬ w2.heap.size + 1 = w2.heap.size := by omega
            clear cz hs
            generalize Z[j] = z at *
            obtain ⟨sl, sa, sf⟩ := s
            simp only at hsl hok hst cl
            by_cases hz0 : 0 < z
            · have q : decide (0 < z) = true := decide_eq_true hz0
              have P := rnum_any (w2.heap.size + 1) t sa sf z _ (hst.out.box 0 rfl) hok.out (by omega)
              simp only [stepN, if_pos hz0] at hsu hsl2 hok2
              have hj5 : j < (i64s sl).length := by rw [i64s_len]; omega
              have eset : (i64s sl).set j (.int .i64 (numV t sa sf z)) = i64s (sl.set j (numV t sa sf z)) := by simp [i64s]
              clear hz0
              replace P := Lib.hid P; replace hsu := Lib.hid hsu; replace hok2 := Lib.hid hok2; replace hzb := Lib.hid hzb
              go_wp2_with fail
              refine Calls.mono P.out ?_
              intro e w5 hR
              obtain ⟨rfl, H5⟩ := St.ofC hst.out hR
              obtain ⟨zl5, cl5, fl5⟩ := H5.box 2 rfl
              have H6 := H5.set 2 rfl j (.int .i64 (numV t sa sf z)) hj5
              rw [eset] at H6
              have H7 := H6.arr [1, 2, 0, 3, 4] rfl
              have ecl : (i64s sl)[j]? = some (.int .i64 sl[j]) := i64s_at (by omega)
              have ecl5 := (cl5 j).trans ecl
              clear H5 H6 hR P hst cl
              replace H7 := Lib.hid H7; replace eset := Lib.hid eset
              go_wp2_with fail
              go_roundg (5 - (j + 1))
              case measure => have := hg.out; omega
              case rel => exact ⟨j + 1, ⟨sl.set j (numV t sa sf z), numA t sa sf z, numF t sa sf z⟩, by omega, Lib.hid rfl, by go_num, Lib.hid hsu.out.symm, by simp [hsl], hok2, H7⟩
            · have q : decide (0 < z) = false := decide_eq_false hz0
              simp only [stepN, if_neg hz0] at hsu hsl2 hok2
              clear hz0
              replace hsu := Lib.hid hsu; replace hok2 := Lib.hid hok2; replace hzb := Lib.hid hzb
              go_wp2_with fail
              go_roundg (5 - (j + 1))
              case measure => have := hg.out; omega
              case rel => exact ⟨j + 1, ⟨sl, sa, sf⟩, by omega, Lib.hid rfl, by go_num, Lib.hid hsu.out.symm, hsl, hok2, hst⟩
          · obtain rfl : j = 5 := by omega
            obtain ⟨sl, sa, sf⟩ := s
            simp only at hsl hok hst
            obtain ⟨l0, l1, l2, l3, l4, hle⟩ : ∃ l0 l1 l2 l3 l4, sl = [l0, l1, l2, l3, l4] := by
              match sl, hsl with
              | [l0, l1, l2, l3, l4], _ => exact ⟨l0, l1, l2, l3, l4, rfl⟩
            subst hle
            have hR2 := hR.out
            rw [← hs.out, hZe.out] at hR2
            simp only [List.getD_cons_zero, List.getD_cons_succ] at hR2
            have hz5 := hz6.out 5 (by have := hZ7.out; omega)
            have hz66 := hz6.out 6 (by have := hZ7.out; omega)
            simp only [hZe.out, List.getElem_cons_succ, List.getElem_cons_zero] at hz5 hz66
            have H5 := (hst.out.alloc [.int .i64 ((t[0]).toNat : Int), .int .i64 l0, .int .i64 l1, .int .i64 l4, .int .i64 l2, .int .i64 l3, .string ⟨#[]⟩] 23)
            obtain ⟨zc, cc, fc⟩ := hst.out.box 0 rfl
            obtain ⟨zz, cz, fz⟩ := hst.out.box 1 rfl
            obtain ⟨zl, cl, fl⟩ := hst.out.box 2 rfl
            have ez5 : wr.cell? ⟨w2.heap.size, 5, none⟩ = some (.int .i64 a5) := by rw [cz 5, hZe.out]; rfl
            have ez6 : wr.cell? ⟨w2.heap.size, 6, none⟩ = some (.int .i64 a6) := by rw [cz 6, hZe.out]; rfl
            have n1 : ¬ w2.heap.size + 1 = wr.heap.size := by omega
            have n2 : ¬ w2.heap.size = wr.heap.size := by omega
            have hok2 := hok.out
            have ok3 : okCut t (datR t sa sf a5 a6).2.1 (datR t sa sf a5 a6).2.2 := by
              unfold datR
              split
              · exact bytes_ok t sa sf _ hok.out
              · exact hok.out
            obtain ⟨hc1, hc2, hc3, hc4⟩ := hok.out
            unfold cut at cc
            simp only [i64s, List.map_cons, List.map_nil] at cl
            clear cz hR hZ hz6 hZ7 hs ok1
            replace H5 := Lib.hid H5; replace hok2 := Lib.hid hok2; replace hst := Lib.hid hst; replace ok3 := Lib.hid ok3
            by_cases hle : a6 ≤ (t.size : Int) - sa
            · have qle : decide (a6 ≤ (t.size : Int) - sa) = true := decide_eq_true hle
              have hrn : rn6 t sa a5 a6 = a6 := if_pos hle
              by_cases hp6 : 0 < a6
              · have qp6 : decide (0 < a6) = true := decide_eq_true hp6
                have hd : datR t sa sf a5 a6 = (bytesV t sa sf a6, bytesA t sa sf a6, bytesF t sa sf a6) := by unfold datR; rw [if_pos hp6, hrn]
                rw [hd] at hR2 ok3
                simp only at hR2 ok3
                clear hd hrn hp6
                replace hle := Lib.hid hle; replace hR2 := Lib.hid hR2; replace ok3 := Lib.hid ok3
                go_wp2_with fail
                refine wp_region_near (by kernel_rfl) (by kernel_rfl) ?_
                intro hs
                repeat (go_big_quiet_step (fail))
                refine wpQuiet_nil ?_
                clear hs
                intro w5 hb5
                have H6 := (H5.out.thru hb5).arr [1, 0, 2, 3, 4, 5] rfl
                obtain ⟨zz6, cz6, fz6⟩ := H6.box 2 rfl
                have ez65 : w5.cell? ⟨w2.heap.size, 5, none⟩ = some (.int .i64 a5) := by rw [cz6 5, hZe.out]; rfl
                have ez66 : w5.cell? ⟨w2.heap.size, 6, none⟩ = some (.int .i64 a6) := by rw [cz6 6, hZe.out]; rfl
                have P := rbytes_any (w2.heap.size + 1) t sa sf a6 _ (H6.box 0 rfl) hok2.out (by omega)
                clear cz6 H5 hb5
                replace H6 := Lib.hid H6; replace P := Lib.hid P
                go_wp2_with fail
                refine Calls.mono P.out ?_
                intro e w6 hq
                obtain ⟨rfl, H7⟩ := St.ofC H6.out hq
                obtain ⟨zm7, cm7, fm7⟩ := H7.box 1 rfl
                have H8 := H7.set 1 rfl 6 (.string (bytesV t sa sf a6)) (by simp)
                have PD := rdone_any (w2.heap.size + 1) t _ _ _ (H8.box 1 rfl) ok3.out
                clear H6 H7 P hq
                generalize bytesA t sa sf a6 = da at *
                generalize bytesF t sa sf a6 = df at *
                generalize bytesV t sa sf a6 = dv at *
                replace hR2 := hR2.out
                obtain ⟨dn, hdn⟩ : ∃ dn, doneF t da df = dn := ⟨_, rfl⟩
                rw [hdn] at hR2 PD
                clear hdn ok3
                by_cases hd0 : dn = 0
                · subst hd0
                  rw [if_pos rfl] at hR2
                  subst hR2
                  replace H8 := Lib.hid H8; replace PD := Lib.hid PD
                  go_wp2_with fail
                  refine Calls.mono PD.out ?_
                  rintro e w9 ⟨rfl, hb9⟩
                  have H9 := (H8.out.thru hb9)
                  obtain ⟨zm9, cm9, fm9⟩ := H9.box 0 rfl
                  have n9 : ¬ wr.heap.size = w.heap.size + 1 := H9.ne_cells 0 4 rfl rfl (by decide)
                  obtain ⟨zo, co, fo⟩ := H9.box 4 rfl
                  have H0 : St w none0 _ (cellA (w.heap.size + 1) [.int .i64 0, .int .i64 0, .int .i64 0, .int .i64 0, .int .i64 0, .int .i64 0, .string ⟨#[]⟩] :: _) := H9.front 4 rfl
                  have HX := ((((((((((((((H0).set 0 rfl 0 (.int .i64 ((t[0]).toNat : Int)) (by simp))).set 0 rfl 1 (.int .i64 l0) (by simp))).set 0 rfl 2 (.int .i64 l1) (by simp))).set 0 rfl 3 (.int .i64 l4) (by simp))).set 0 rfl 4 (.int .i64 l2) (by simp))).set 0 rfl 5 (.int .i64 l3) (by simp))).set 0 rfl 6 (.string dv) (by simp))
                  clear H0 H8 H9 PD hb9
                  replace HX := Lib.hid HX
                  go_wp2_with fail
                  exact bodyPost_ret (v := .tuple #[.agg #[.int .i64 ((t[0]).toNat : Int), .int .i64 l0, .int .i64 l1, .int .i64 l4, .int .i64 l2, .int .i64 l3, .string dv], .int .i64 0]) (by simp [results, Try.results13, go_sem, zo, co, fo]) rfl (HX.out.ret rfl)
                · rw [if_neg hd0] at hR2
                  have q0 : (dn != 0) = true := by simpa using hd0
                  subst hR2
                  replace H8 := Lib.hid H8; replace PD := Lib.hid PD; replace hd0 := Lib.hid hd0
                  go_wp2_with fail
                  refine Calls.mono PD.out ?_
                  rintro e w9 ⟨rfl, hb9⟩
                  have H9 := (H8.out.thru hb9)
                  clear H8 PD hb9
                  obtain ⟨zo, co, fo⟩ := H9.box 4 rfl
                  have H0 : St w none0 _ (cellA (w.heap.size + 1) [.int .i64 0, .int .i64 0, .int .i64 0, .int .i64 0, .int .i64 0, .int .i64 0, .string ⟨#[]⟩] :: _) := H9.front 4 rfl
                  have H5 := ((((((((((((((H0).set 0 rfl 0 (.int .i64 zeroM.kind) (by simp))).set 0 rfl 1 (.int .i64 zeroM.addr) (by simp))).set 0 rfl 2 (.int .i64 zeroM.prio) (by simp))).set 0 rfl 3 (.int .i64 zeroM.num) (by simp))).set 0 rfl 4 (.int .i64 zeroM.token) (by simp))).set 0 rfl 5 (.int .i64 zeroM.nonce) (by simp))).set 0 rfl 6 (.string zeroM.dat) (by simp))
                  clear H0
                  simp only [zeroM] at H5
                  replace H5 := Lib.hid H5
                  go_wp2_with fail
                  exact bodyPost_ret (v := .tuple #[.agg #[.int .i64 0, .int .i64 0, .int .i64 0, .int .i64 0, .int .i64 0, .int .i64 0, .string ⟨#[]⟩], .int .i64 dn]) (by simp [results, Try.results13, go_sem, zo, co, fo]) rfl (H5.out.ret rfl)
              · have qp6 : decide (0 < a6) = false := decide_eq_false hp6
                have hd : datR t sa sf a5 a6 = (⟨#[]⟩, sa, sf) := by unfold datR; rw [if_neg hp6]
                rw [hd] at hR2 ok3
                simp only at hR2 ok3
                clear hd hrn hp6
                replace hle := Lib.hid hle; replace hR2 := Lib.hid hR2; replace ok3 := Lib.hid ok3
                go_wp2_with fail
                refine wp_region_near (by kernel_rfl) (by kernel_rfl) ?_
                intro hs
                repeat (go_big_quiet_step (fail))
                refine wpQuiet_nil ?_
                clear hs
                intro w5 hb5
                have H8 := (H5.out.thru hb5).arr [0, 1, 2, 3, 4, 5] rfl
                obtain ⟨zz6, cz6, fz6⟩ := H8.box 2 rfl
                have ez65 : w5.cell? ⟨w2.heap.size, 5, none⟩ = some (.int .i64 a5) := by rw [cz6 5, hZe.out]; rfl
                have ez66 : w5.cell? ⟨w2.heap.size, 6, none⟩ = some (.int .i64 a6) := by rw [cz6 6, hZe.out]; rfl
                have PD := rdone_any (w2.heap.size + 1) t _ _ _ (H8.box 1 rfl) ok3.out
                clear cz6 H5 hb5
                replace hR2 := hR2.out
                obtain ⟨dn, hdn⟩ : ∃ dn, doneF t sa sf = dn := ⟨_, rfl⟩
                rw [hdn] at hR2 PD
                clear hdn ok3
                by_cases hd0 : dn = 0
                · subst hd0
                  rw [if_pos rfl] at hR2
                  subst hR2
                  replace H8 := Lib.hid H8; replace PD := Lib.hid PD
                  go_wp2_with fail
                  refine Calls.mono PD.out ?_
                  rintro e w9 ⟨rfl, hb9⟩
                  have H9 := (H8.out.thru hb9)
                  obtain ⟨zm9, cm9, fm9⟩ := H9.box 0 rfl
                  have n9 : ¬ wr.heap.size = w.heap.size + 1 := H9.ne_cells 0 4 rfl rfl (by decide)
                  obtain ⟨zo, co, fo⟩ := H9.box 4 rfl
                  have H0 : St w none0 _ (cellA (w.heap.size + 1) [.int .i64 0, .int .i64 0, .int .i64 0, .int .i64 0, .int .i64 0, .int .i64 0, .string ⟨#[]⟩] :: _) := H9.front 4 rfl
                  have HX := ((((((((((((((H0).set 0 rfl 0 (.int .i64 ((t[0]).toNat : Int)) (by simp))).set 0 rfl 1 (.int .i64 l0) (by simp))).set 0 rfl 2 (.int .i64 l1) (by simp))).set 0 rfl 3 (.int .i64 l4) (by simp))).set 0 rfl 4 (.int .i64 l2) (by simp))).set 0 rfl 5 (.int .i64 l3) (by simp))).set 0 rfl 6 (.string ⟨#[]⟩) (by simp))
                  clear H0 H8 H9 PD hb9
                  replace HX := Lib.hid HX
                  go_wp2_with fail
                  exact bodyPost_ret (v := .tuple #[.agg #[.int .i64 ((t[0]).toNat : Int), .int .i64 l0, .int .i64 l1, .int .i64 l4, .int .i64 l2, .int .i64 l3, .string ⟨#[]⟩], .int .i64 0]) (by simp [results, Try.results13, go_sem, zo, co, fo]) rfl (HX.out.ret rfl)
                · rw [if_neg hd0] at hR2
                  have q0 : (dn != 0) = true := by simpa using hd0
                  subst hR2
                  replace H8 := Lib.hid H8; replace PD := Lib.hid PD; replace hd0 := Lib.hid hd0
                  go_wp2_with fail
                  refine Calls.mono PD.out ?_
                  rintro e w9 ⟨rfl, hb9⟩
                  have H9 := (H8.out.thru hb9)
                  clear H8 PD hb9
                  obtain ⟨zo, co, fo⟩ := H9.box 4 rfl
                  have H0 : St w none0 _ (cellA (w.heap.size + 1) [.int .i64 0, .int .i64 0, .int .i64 0, .int .i64 0, .int .i64 0, .int .i64 0, .string ⟨#[]⟩] :: _) := H9.front 4 rfl
                  have H5 := ((((((((((((((H0).set 0 rfl 0 (.int .i64 zeroM.kind) (by simp))).set 0 rfl 1 (.int .i64 zeroM.addr) (by simp))).set 0 rfl 2 (.int .i64 zeroM.prio) (by simp))).set 0 rfl 3 (.int .i64 zeroM.num) (by simp))).set 0 rfl 4 (.int .i64 zeroM.token) (by simp))).set 0 rfl 5 (.int .i64 zeroM.nonce) (by simp))).set 0 rfl 6 (.string zeroM.dat) (by simp))
                  clear H0
                  simp only [zeroM] at H5
                  replace H5 := Lib.hid H5
                  go_wp2_with fail
                  exact bodyPost_ret (v := .tuple #[.agg #[.int .i64 0, .int .i64 0, .int .i64 0, .int .i64 0, .int .i64 0, .int .i64 0, .string ⟨#[]⟩], .int .i64 dn]) (by simp [results, Try.results13, go_sem, zo, co, fo]) rfl (H5.out.ret rfl)
            · have qle : decide (a6 ≤ (t.size : Int) - sa) = false := decide_eq_false hle
              have hrn : rn6 t sa a5 a6 = a5 := if_neg hle
              by_cases hp6 : 0 < a6
              · have qp6 : decide (0 < a6) = true := decide_eq_true hp6
                have hd : datR t sa sf a5 a6 = (bytesV t sa sf a5, bytesA t sa sf a5, bytesF t sa sf a5) := by unfold datR; rw [if_pos hp6, hrn]
                rw [hd] at hR2 ok3
                simp only at hR2 ok3
                clear hd hrn hp6
                replace hle := Lib.hid hle; replace hR2 := Lib.hid hR2; replace ok3 := Lib.hid ok3
                go_wp2_with fail
                refine wp_region_near (by kernel_rfl) (by kernel_rfl) ?_
                intro hs
                repeat (go_big_quiet_step (fail))
                refine wpQuiet_nil ?_
                clear hs
                intro w5 hb5
                have H6 := (H5.out.thru hb5).arr [1, 0, 2, 3, 4, 5] rfl
                obtain ⟨zz6, cz6, fz6⟩ := H6.box 2 rfl
                have ez65 : w5.cell? ⟨w2.heap.size, 5, none⟩ = some (.int .i64 a5) := by rw [cz6 5, hZe.out]; rfl
                have ez66 : w5.cell? ⟨w2.heap.size, 6, none⟩ = some (.int .i64 a6) := by rw [cz6 6, hZe.out]; rfl
                have P := rbytes_any (w2.heap.size + 1) t sa sf a5 _ (H6.box 0 rfl) hok2.out (by omega)
                clear cz6 H5 hb5
                replace H6 := Lib.hid H6; replace P := Lib.hid P
                go_wp2_with fail
                refine Calls.mono P.out ?_
                intro e w6 hq
                obtain ⟨rfl, H7⟩ := St.ofC H6.out hq
                obtain ⟨zm7, cm7, fm7⟩ := H7.box 1 rfl
                have H8 := H7.set 1 rfl 6 (.string (bytesV t sa sf a5)) (by simp)
                have PD := rdone_any (w2.heap.size + 1) t _ _ _ (H8.box 1 rfl) ok3.out
                clear H6 H7 P hq
                generalize bytesA t sa sf a5 = da at *
                generalize bytesF t sa sf a5 = df at *
                generalize bytesV t sa sf a5 = dv at *
                replace hR2 := hR2.out
                obtain ⟨dn, hdn⟩ : ∃ dn, doneF t da df = dn := ⟨_, rfl⟩
                rw [hdn] at hR2 PD
                clear hdn ok3
                by_cases hd0 : dn = 0
                · subst hd0
                  rw [if_pos rfl] at hR2
                  subst hR2
                  replace H8 := Lib.hid H8; replace PD := Lib.hid PD
                  go_wp2_with fail
                  refine Calls.mono PD.out ?_
                  rintro e w9 ⟨rfl, hb9⟩
                  have H9 := (H8.out.thru hb9)
                  obtain ⟨zm9, cm9, fm9⟩ := H9.box 0 rfl
                  have n9 : ¬ wr.heap.size = w.heap.size + 1 := H9.ne_cells 0 4 rfl rfl (by decide)
                  obtain ⟨zo, co, fo⟩ := H9.box 4 rfl
                  have H0 : St w none0 _ (cellA (w.heap.size + 1) [.int .i64 0, .int .i64 0, .int .i64 0, .int .i64 0, .int .i64 0, .int .i64 0, .string ⟨#[]⟩] :: _) := H9.front 4 rfl
                  have HX := ((((((((((((((H0).set 0 rfl 0 (.int .i64 ((t[0]).toNat : Int)) (by simp))).set 0 rfl 1 (.int .i64 l0) (by simp))).set 0 rfl 2 (.int .i64 l1) (by simp))).set 0 rfl 3 (.int .i64 l4) (by simp))).set 0 rfl 4 (.int .i64 l2) (by simp))).set 0 rfl 5 (.int .i64 l3) (by simp))).set 0 rfl 6 (.string dv) (by simp))
                  clear H0 H8 H9 PD hb9
                  replace HX := Lib.hid HX
                  go_wp2_with fail
                  exact bodyPost_ret (v := .tuple #[.agg #[.int .i64 ((t[0]).toNat : Int), .int .i64 l0, .int .i64 l1, .int .i64 l4, .int .i64 l2, .int .i64 l3, .string dv], .int .i64 0]) (by simp [results, Try.results13, go_sem, zo, co, fo]) rfl (HX.out.ret rfl)
                · rw [if_neg hd0] at hR2
                  have q0 : (dn != 0) = true := by simpa using hd0
                  subst hR2
                  replace H8 := Lib.hid H8; replace PD := Lib.hid PD; replace hd0 := Lib.hid hd0
                  go_wp2_with fail
                  refine Calls.mono PD.out ?_
                  rintro e w9 ⟨rfl, hb9⟩
                  have H9 := (H8.out.thru hb9)
                  clear H8 PD hb9
                  obtain ⟨zo, co, fo⟩ := H9.box 4 rfl
                  have H0 : St w none0 _ (cellA (w.heap.size + 1) [.int .i64 0, .int .i64 0, .int .i64 0, .int .i64 0, .int .i64 0, .int .i64 0, .string ⟨#[]⟩] :: _) := H9.front 4 rfl
                  have H5 := ((((((((((((((H0).set 0 rfl 0 (.int .i64 zeroM.kind) (by simp))).set 0 rfl 1 (.int .i64 zeroM.addr) (by simp))).set 0 rfl 2 (.int .i64 zeroM.prio) (by simp))).set 0 rfl 3 (.int .i64 zeroM.num) (by simp))).set 0 rfl 4 (.int .i64 zeroM.token) (by simp))).set 0 rfl 5 (.int .i64 zeroM.nonce) (by simp))).set 0 rfl 6 (.string zeroM.dat) (by simp))
                  clear H0
                  simp only [zeroM] at H5
                  replace H5 := Lib.hid H5
                  go_wp2_with fail
                  exact bodyPost_ret (v := .tuple #[.agg #[.int .i64 0, .int .i64 0, .int .i64 0, .int .i64 0, .int .i64 0, .int .i64 0, .string ⟨#[]⟩], .int .i64 dn]) (by simp [results, Try.results13, go_sem, zo, co, fo]) rfl (H5.out.ret rfl)
              · have qp6 : decide (0 < a6) = false := decide_eq_false hp6
                have hd : datR t sa sf a5 a6 = (⟨#[]⟩, sa, sf) := by unfold datR; rw [if_neg hp6]
                rw [hd] at hR2 ok3
                simp only at hR2 ok3
                clear hd hrn hp6
                replace hle := Lib.hid hle; replace hR2 := Lib.hid hR2; replace ok3 := Lib.hid ok3
                go_wp2_with fail
                refine wp_region_near (by kernel_rfl) (by kernel_rfl) ?_
                intro hs
                repeat (go_big_quiet_step (fail))
                refine wpQuiet_nil ?_
                clear hs
                intro w5 hb5
                have H8 := (H5.out.thru hb5).arr [0, 1, 2, 3, 4, 5] rfl
                obtain ⟨zz6, cz6, fz6⟩ := H8.box 2 rfl
                have ez65 : w5.cell? ⟨w2.heap.size, 5, none⟩ = some (.int .i64 a5) := by rw [cz6 5, hZe.out]; rfl
                have ez66 : w5.cell? ⟨w2.heap.size, 6, none⟩ = some (.int .i64 a6) := by rw [cz6 6, hZe.out]; rfl
                have PD := rdone_any (w2.heap.size + 1) t _ _ _ (H8.box 1 rfl) ok3.out
                clear cz6 H5 hb5
                replace hR2 := hR2.out
                obtain ⟨dn, hdn⟩ : ∃ dn, doneF t sa sf = dn := ⟨_, rfl⟩
                rw [hdn] at hR2 PD
                clear hdn ok3
                by_cases hd0 : dn = 0
                · subst hd0
                  rw [if_pos rfl] at hR2
                  subst hR2
                  replace H8 := Lib.hid H8; replace PD := Lib.hid PD
                  go_wp2_with fail
                  refine Calls.mono PD.out ?_
                  rintro e w9 ⟨rfl, hb9⟩
                  have H9 := (H8.out.thru hb9)
                  obtain ⟨zm9, cm9, fm9⟩ := H9.box 0 rfl
                  have n9 : ¬ wr.heap.size = w.heap.size + 1 := H9.ne_cells 0 4 rfl rfl (by decide)
                  obtain ⟨zo, co, fo⟩ := H9.box 4 rfl
                  have H0 : St w none0 _ (cellA (w.heap.size + 1) [.int .i64 0, .int .i64 0, .int .i64 0, .int .i64 0, .int .i64 0, .int .i64 0, .string ⟨#[]⟩] :: _) := H9.front 4 rfl
                  have HX := ((((((((((((((H0).set 0 rfl 0 (.int .i64 ((t[0]).toNat : Int)) (by simp))).set 0 rfl 1 (.int .i64 l0) (by simp))).set 0 rfl 2 (.int .i64 l1) (by simp))).set 0 rfl 3 (.int .i64 l4) (by simp))).set 0 rfl 4 (.int .i64 l2) (by simp))).set 0 rfl 5 (.int .i64 l3) (by simp))).set 0 rfl 6 (.string ⟨#[]⟩) (by simp))
                  clear H0 H8 H9 PD hb9
                  replace HX := Lib.hid HX
                  go_wp2_with fail
                  exact bodyPost_ret (v := .tuple #[.agg #[.int .i64 ((t[0]).toNat : Int), .int .i64 l0, .int .i64 l1, .int .i64 l4, .int .i64 l2, .int .i64 l3, .string ⟨#[]⟩], .int .i64 0]) (by simp [results, Try.results13, go_sem, zo, co, fo]) rfl (HX.out.ret rfl)
                · rw [if_neg hd0] at hR2
                  have q0 : (dn != 0) = true := by simpa using hd0
                  subst hR2
                  replace H8 := Lib.hid H8; replace PD := Lib.hid PD; replace hd0 := Lib.hid hd0
                  go_wp2_with fail
                  refine Calls.mono PD.out ?_
                  rintro e w9 ⟨rfl, hb9⟩
                  have H9 := (H8.out.thru hb9)
                  clear H8 PD hb9
                  obtain ⟨zo, co, fo⟩ := H9.box 4 rfl
                  have H0 : St w none0 _ (cellA (w.heap.size + 1) [.int .i64 0, .int .i64 0, .int .i64 0, .int .i64 0, .int .i64 0, .int .i64 0, .string ⟨#[]⟩] :: _) := H9.front 4 rfl
                  have H5 := ((((((((((((((H0).set 0 rfl 0 (.int .i64 zeroM.kind) (by simp))).set 0 rfl 1 (.int .i64 zeroM.addr) (by simp))).set 0 rfl 2 (.int .i64 zeroM.prio) (by simp))).set 0 rfl 3 (.int .i64 zeroM.num) (by simp))).set 0 rfl 4 (.int .i64 zeroM.token) (by simp))).set 0 rfl 5 (.int .i64 zeroM.nonce) (by simp))).set 0 rfl 6 (.string zeroM.dat) (by simp))
                  clear H0
                  simp only [zeroM] at H5
                  replace H5 := Lib.hid H5
                  go_wp2_with fail
                  exact bodyPost_ret (v := .tuple #[.agg #[.int .i64 0, .int .i64 0, .int .i64 0, .int .i64 0, .int .i64 0, .int .i64 0, .string ⟨#[]⟩], .int .i64 dn]) (by simp [results, Try.results13, go_sem, zo, co, fo]) rfl (H5.out.ret rfl)
  · have hv : rgetV k t kd = (zeroM, 7) := by unfold rgetV; rw [if_pos hk]
    have q : (k != 46) = true := by simpa using hk
    rw [hv]
    clear hv hkd
    replace hk := Lib.hid hk; replace H := Lib.hid H; replace ht := Lib.hid ht
    go_enter Try.func13, Try.ntmps13
    go_wp2_with fail
    exact bodyPost_ret (v := .tuple #[.agg (encM zeroM).toArray, .int .i64 7]) (by simp [results, Try.results13, go_sem, encM, zeroM]) rfl (H.out.ret rfl)
end Go.Proofs.Ytpajedpkdfacoaa.Mp
