/- The walks of mpopt.All and mpopt.Find. -/
import Derived.Test.YtpajedpkdfacoaaMpBack
import Derived.Test.YtpajedpkdfacoaaOptsCheck2
import Derived.Test.YtpajedpkdfacoaaStep
namespace Go.Proofs.Ytpajedpkdfacoaa.Mp
set_option linter.unusedSimpArgs false
set_option linter.unusedVariables false
open Go Go.RowKit Go.Shelf Go.Proofs.Ytpajedpkdfacoaa Go.Proofs.Ytpajedpkdfacoaa.Octets
open Go.Proofs.Ytpajedpkdfacoaa.Opts (El encs els_at)
attribute [local irreducible] Calls

theorem mu_info : (Try.prog.info? 23).map (fun i => (i.zero, i.size, i.bytes)) = some (some (.agg #[.int .i64 0, .int .i64 0, .int .i64 0, .int .i64 0, .int .i64 0, .int .i64 0, .string ⟨#[]⟩]), 7, 64) := by kernel_rfl
def encMs (l : List Mu) : List Value := l.flatMap encM
theorem encMs_app (l : List Mu) (x : Mu) : encMs l ++ encM x = encMs (l ++ [x]) := by simp [encMs]
theorem mus_at {w : World} {a : Option Addr} {l : List Mu} (h : Rd w a (encMs l)) {n : Nat} (hn : l.length = n) (h0 : 0 < n) :
    ∃ b off, a = some ⟨b, off, none⟩ ∧ b < w.heap.size ∧ ∀ i (hi : i < l.length), w.cell? ⟨b, off + i * 7, none⟩ = some (.int .i64 l[i].kind) ∧ w.cell? ⟨b, off + i * 7 + 1, none⟩ = some (.int .i64 l[i].addr) ∧ w.cell? ⟨b, off + i * 7 + 2, none⟩ = some (.int .i64 l[i].prio) ∧ w.cell? ⟨b, off + i * 7 + 3, none⟩ = some (.int .i64 l[i].num) ∧ w.cell? ⟨b, off + i * 7 + 4, none⟩ = some (.int .i64 l[i].token) ∧ w.cell? ⟨b, off + i * 7 + 5, none⟩ = some (.int .i64 l[i].nonce) ∧ w.cell? ⟨b, off + i * 7 + 6, none⟩ = some (.string l[i].dat) := by
  obtain ⟨b, off, e, hb, hc⟩ := Rd.rows (size := 7) encM_len (by omega) h hn h0
  exact ⟨b, off, e, hb, fun i hi => ⟨hc i hi 0 _ rfl, hc i hi 1 _ rfl, hc i hi 2 _ rfl, hc i hi 3 _ rfl, hc i hi 4 _ rfl, hc i hi 5 _ rfl, hc i hi 6 _ rfl⟩⟩
/-- Those of options that can be read. -/
def oneM (o : El) : Option Mu := if (getV o.1 o.2).2 = 0 then some (getV o.1 o.2).1 else none
def allM (l : List El) : List Mu := l.filterMap oneM
theorem allM_len (l : List El) : (allM l).length ≤ l.length := List.length_filterMap_le _ _
set_option maxRecDepth 100000 in
set_option maxHeartbeats 1000000 in
theorem all_any (l : List El) (n cap : Nat) (hl : l.length = n) (hn : n ≤ 1000000) (hs : ∀ x ∈ l, x.2.size ≤ 900000000) (a : Option Addr) (w : World) (h : Rd w a (encs l)) :
    Calls Try.prog 16 #[.slice a n cap] w (fun e w' => ∃ v, e = .returned v ∧ St w none0 w' [rowA 7 v (allM l).length (encMs (allM l))]) := by
  obtain ⟨i0, hi, hz, hz1, hz2⟩ := info_parts mu_info
  have PG := fun (x : El) (hx : x.2.size ≤ 900000000) W => get_any x.1 x.2 hx W
  replace h := Lib.hid h; replace hl := Lib.hid hl; replace hs := Lib.hid hs; replace PG := Lib.hid PG
  go_enter Try.func16, Try.ntmps16
  go_wp2_with fail
  go_loopg [3, 5, 6, 7, 10] n (fun g v3 _ _ _ i wr => ∃ (j : Nat) (a3 : Option Addr) (c3 : Nat), j ≤ n ∧ Hid (g = n - j) ∧ i = .int .i64 j ∧ v3 = .slice a3 (allM (l.take j)).length c3 ∧ Hid (St w none0 wr [rowA 7 (.slice a3 (allM (l.take j)).length c3) (allM (l.take j)).length (encMs (allM (l.take j)))]))
  case atStart => exact ⟨0, none, 0, by omega, Lib.hid rfl, rfl, rfl, Lib.hid ((St.zero w).row_nil (size := 7))⟩
  case round =>
    obtain ⟨j, a3, c3, hj, hg, rfl, rfl, hst⟩ := hrel
    by_cases hlt : j < n
    · have hjl : j < l.length := by have := hl.out; omega
      obtain ⟨b, off, rfl, hb, hc⟩ := els_at (h.out.below hst.out.below) hl.out (by omega)
      obtain ⟨e0, e1⟩ := hc j hjl
      have hsz := hs.out l[j] (List.getElem_mem hjl)
      have P := PG.out l[j] hsz
      have htk : allM (l.take (j + 1)) = allM (l.take j) ++ (oneM l[j]).toList := by
        unfold allM
        rw [List.take_succ_eq_append_getElem hjl, List.filterMap_append]
        cases hq : oneM l[j] <;> simp [hq]
      have hlen : (allM (l.take j)).length ≤ j := Nat.le_trans (allM_len _) (by simp; omega)
      unfold oneM at htk
      clear hc
      generalize allM (l.take j) = A at *
      generalize hx : l[j] = x at *
      obtain ⟨x1, x2⟩ := x
      simp only at P htk e0 e1
      have H1 := hst.out.alloc [.int .i64 x1, .string x2] 26
      obtain ⟨z1, k1, f1⟩ := H1.box 0 rfl
      obtain ⟨R, hR⟩ : ∃ R, getV x1 x2 = R := ⟨_, rfl⟩
      rw [hR] at P htk
      obtain ⟨m, e⟩ := R
      obtain ⟨m0, m1, m2, m3, m4, m5, m6⟩ := m
      simp only [encM, List.toArray] at P
      clear hR hst hx hsz
      replace P := Lib.hid P; replace H1 := Lib.hid H1; replace htk := Lib.hid htk
      go_wp2_with fail
      refine Calls.mono (P.out _) ?_
      rintro e w1 ⟨rfl, hb1⟩
      have H2 := (H1.out.thru hb1).alloc [.int .i64 m0, .int .i64 m1, .int .i64 m2, .int .i64 m3, .int .i64 m4, .int .i64 m5, .string m6] 23
      obtain ⟨z2, k2, f2⟩ := H2.box 0 rfl
      clear H1 P k1 f1
      by_cases he : e = 0
      · subst he
        have htk2 := htk.out
        simp only [if_true, Option.toList] at htk2
        have H3 := H2.skip (.cells #[.int .i64 m0, .int .i64 m1, .int .i64 m2, .int .i64 m3, .int .i64 m4, .int .i64 m5, .string m6] 23)
        replace htk2 := Lib.hid htk2
        replace H2 := Lib.hid H2
        go_wp2_with (at_builtin; (refine wpList_appS rfl (.tmp 21) (.tmp 23) _ rfl 23 i0 _ 7 64 Try.underlying35 hi hz hz1 hz2 rfl (by omega) 2 _ A.length _ rfl H2.out rfl 1 1 [.int .i64 m0, .int .i64 m1, .int .i64 m2, .int .i64 m3, .int .i64 m4, .int .i64 m5, .string m6] rfl rfl (by simp [Value.oneCell']) (by omega) (by omega) ?_; intro wv5 w5 H6; obtain ⟨a6, c6, rfl, _⟩ := St.slice (by omega) 0 H6 rfl; replace H6 := Lib.hid H6))
        go_roundg (n - (j + 1))
        case measure => have := hg.out; omega
        case rel => 
          refine ⟨j + 1, a6, c6, by omega, Lib.hid rfl, by go_num, ?_, ?_⟩
          · rw [htk2.out]; simp
          · rw [htk2.out, List.length_append, ← encMs_app]
            exact Lib.hid ((H6.out).drops 1)
      · have htk2 := htk.out
        rw [if_neg he] at htk2
        simp only [Option.toList, List.append_nil] at htk2
        have q : (e == 0) = false := by simpa using he
        replace htk2 := Lib.hid htk2
        replace he := Lib.hid he
        replace H2 := Lib.hid H2
        go_wp2_with fail
        go_roundg (n - (j + 1))
        case measure => have := hg.out; omega
        case rel =>
          refine ⟨j + 1, a3, c3, by omega, Lib.hid rfl, by go_num, ?_, ?_⟩
          · rw [htk2.out]
          · rw [htk2.out]
            exact Lib.hid ((H2.out.arr [2, 0, 1] rfl).drops 1)
    · have hj2 : l.take j = l := List.take_of_length_le (by have := hl.out; omega)
      rw [hj2] at hst ⊢
      obtain rfl : j = n := by omega
      clear hj2
      go_wp2_with fail
      go_ret
      exact ⟨_, rfl, hst.out⟩
end Go.Proofs.Ytpajedpkdfacoaa.Mp
