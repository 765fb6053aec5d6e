/- The walk of mpopt.Put. -/
import Derived.Test.YtpajedpkdfacoaaMpCheck
namespace Go.Proofs.Ytpajedpkdfacoaa.Mp
set_option linter.unusedSimpArgs false
set_option linter.unusedVariables false
open Go Go.RowKit Go.Shelf Go.Proofs.Ytpajedpkdfacoaa Go.Proofs.Ytpajedpkdfacoaa.Octets
attribute [local irreducible] Calls

def putF (m : Mu) (t : ByteArray) : Fd → ByteArray
  | .num i s => catB t (putB (getM m i) s)
  | .byt _ => t ++ m.dat
/-- It as bytes. -/
def textM (m : Mu) (l : List Fd) : ByteArray := l.foldl (putF m) (catB ⟨#[]⟩ (putB m.kind 1))
/-- What Put comes to. -/
def putV (m : Mu) : (Int × ByteArray) × Int :=
  match fieldsO m.kind with
  | none => ((0, ⟨#[]⟩), checkM m)
  | some l => if checkM m = 0 then ((46, textM m l), 0) else ((0, ⟨#[]⟩), checkM m)
def goodM (m : Mu) : Prop := isI64 m.kind ∧ isI64 m.addr ∧ isI64 m.prio ∧ isI64 m.num ∧ isI64 m.token ∧ isI64 m.nonce
theorem goodM.get {m : Mu} (h : goodM m) (i : Nat) : isI64 (getM m i) := by
  obtain ⟨h0, h1, h2, h3, h4, h5⟩ := h
  unfold getM
  repeat' split
  all_goals assumption
theorem catB_size (t : ByteArray) (l : List UInt8) : (catB t l).size = t.size + l.length := by
  unfold catB
  show (t.data.toList ++ l).toArray.size = t.data.size + l.length
  rw [List.size_toArray, List.length_append, Array.length_toList]
theorem putF_size (m : Mu) (hd : m.dat.size ≤ 600) (t : ByteArray) (l : List Fd) (f : Fd) (h : okFd l f) : (putF m t f).size ≤ t.size + 606 := by
  cases f with
  | num i s =>
    unfold putF
    rw [catB_size, putB_len]
    have := h.2.2
    omega
  | byt z =>
    unfold putF
    rw [ByteArray.size_append]
    omega
theorem check_none {m : Mu} (h : checkM m = 0) : fieldsO m.kind ≠ none := by
  intro h0
  unfold checkM at h
  rw [h0] at h
  cases h
set_option maxRecDepth 100000 in
set_option maxHeartbeats 1000000 in
theorem put_any (m : Mu) (hgm : goodM m) (hd : m.dat.size ≤ 600) (w : World) : Calls Try.prog 7 #[.agg (encM m).toArray] w (Ret w (.tuple #[.agg #[.int .i64 (putV m).1.1, .string (putV m).1.2], .int .i64 (putV m).2])) := by
  have H := ((St.zero w).alloc (encM m) 23).alloc [.int .i64 0, .string ⟨#[]⟩] 26
  simp only [World.size_alloc] at H
  have P := check_any m (by omega)
  by_cases hc : checkM m = 0
  · cases hf : fieldsO m.kind with
    | none => exact absurd hf (check_none hc)
    | some l =>
      obtain ⟨hl3, hok⟩ := fields_ok hf
      have hv : putV m = ((46, textM m l), 0) := by unfold putV; simp only [hf]; rw [if_pos hc]
      rw [hv]
      have P2 := of_any m.kind l hf
      have P3 := fun w' => put_int ⟨#[]⟩ m.kind 1 w' (by decide) (by omega) hgm.1
      rw [show (min (1 : Int) 8).toNat = 1 by decide] at P3
      have e3 : (⟨(List.append [] (putB m.kind 1)).toArray⟩ : ByteArray) = catB ⟨#[]⟩ (putB m.kind 1) := rfl
      unfold textM
      obtain ⟨t0, ht0⟩ : ∃ t0, t0 = catB ⟨#[]⟩ (putB m.kind 1) := ⟨_, rfl⟩
      have P4 : ∀ w', Calls Try.prog 30 #[.string ⟨#[]⟩, .int .i64 m.kind, .int .i64 1] w' (Ret w' (.string t0)) := by rw [ht0]; exact P3
      have hs0 : t0.size = 1 := by rw [ht0, catB_size, putB_len]; rfl
      rw [← ht0]
      rw [hc] at P
      obtain ⟨T, hT⟩ : ∃ T, T = l.foldl (putF m) t0 := ⟨_, rfl⟩
      rw [← hT]
      clear P3 e3 ht0 hv hc hf
      obtain ⟨kind, addr, prio, num, token, nonce, dat⟩ := m
      obtain ⟨m, hm⟩ : ∃ m, m = (⟨kind, addr, prio, num, token, nonce, dat⟩ : Mu) := ⟨_, rfl⟩
      rw [← hm] at hd hgm hT
      simp only [] at P2 P4
      unfold encM at *
      have e7 : Hid (encM m = [.int .i64 kind, .int .i64 addr, .int .i64 prio, .int .i64 num, .int .i64 token, .int .i64 nonce, .string dat]) := Lib.hid (by rw [hm]; rfl)
      replace H := Lib.hid H; replace P := Lib.hid P; replace P2 := Lib.hid P2; replace P4 := Lib.hid P4; replace hok := Lib.hid hok; replace hm := Lib.hid hm; replace hgm := Lib.hid hgm; replace hT := Lib.hid hT
      go_enter Try.func7, Try.ntmps7
      go_wp2_with fail
      refine Calls.mono (P.out _) ?_
      rintro e w1 ⟨rfl, hb1⟩
      have z1 := Below.size hb1; try simp only [World.size_alloc, World.size_setCell, World.size_drew] at z1
      have H1 := H.out.thru hb1
      obtain ⟨zm1, cm1, fm1⟩ := H1.box 1 rfl
      clear P H
      replace H1 := Lib.hid H1
      go_wp2_with fail
      refine Calls.mono (P4.out _) ?_
      rintro e w2 ⟨rfl, hb2⟩
      have z2 := Below.size hb2; try simp only [World.size_alloc, World.size_setCell, World.size_drew] at z2
      have H2 := H1.out.thru hb2
      obtain ⟨zm2, cm2, fm2⟩ := H2.box 1 rfl
      clear P4 H1 zm1 cm1 fm1
      replace H2 := Lib.hid H2
      go_wp2_with fail
      refine Calls.mono (P2.out _) ?_
      rintro e w3 ⟨b, q, rfl, HP⟩
      have H3 : St w none0 w3 [cellA b (l.map (encFd q)), szA q l, cellA (w.heap.size + 1) [.int .i64 0, .string ⟨#[]⟩], cellA w.heap.size (encM m)] := by rw [e7.out]; exact H2.out.add HP
      clear P2 HP H2
      replace H3 := Lib.hid H3
      go_wp2_with fail
      go_loopg [5, 9, 27] l.length (fun g v5 _ v27 wr => ∃ (j : Nat) (t : ByteArray), j ≤ l.length ∧ Hid (g = l.length - j) ∧ v27 = .int .i64 j ∧ v5 = .string t ∧ Hid (t = (l.take j).foldl (putF m) t0) ∧ t.size ≤ 1 + 606 * j ∧ Hid (St w none0 wr [cellA b (l.map (encFd q)), szA q l, cellA (w.heap.size + 1) [.int .i64 0, .string ⟨#[]⟩], cellA w.heap.size (encM m)]))
      case atStart => exact ⟨0, t0, by omega, Lib.hid rfl, rfl, rfl, Lib.hid rfl, by omega, H3⟩
      case round =>
        obtain ⟨j, t, hj, hg, rfl, rfl, ht, hsz, hst⟩ := hrel
        clear H3
        by_cases hlt : j < l.length
        · obtain ⟨zb, cb, fb⟩ := hst.out.box 0 rfl
          have e0 : wr.cell? ⟨b, j, none⟩ = some (encFd q l[j]) := (cb j).trans (by simp [hlt])
          have hf := hok.out l[j] (List.getElem_mem hlt)
          have htk : putF m t l[j] = (l.take (j + 1)).foldl (putF m) t0 := by rw [List.take_succ_eq_append_getElem hlt, List.foldl_append, ← ht.out]; rfl
          have hsz2 := putF_size m hd t l l[j] hf
          have hsz3 : (putF m t l[j]).size ≤ 1 + 606 * (j + 1) := by omega
          have hlt' : (j : Int) < l.length := by omega
          obtain ⟨zm, cm, fm⟩ := hst.out.box 3 rfl
          rw [e7.out] at cm
          generalize l[j] = x at *
          clear cb hsz2
          cases x with
          | num i s =>
            obtain ⟨hi, hs⟩ := hf
            unfold encFd at e0
            have P := nput_any m i s hi hs t (by omega) (hgm.out.get i) wr
            rw [e7.out] at P
            rw [show putF m t (.num i s) = catB t (putB (getM m i) s) from rfl] at htk hsz3
            generalize catB t (putB (getM m i) s) = t2 at P htk hsz3
            replace hsz := hsz3
            clear hsz3 hi hs ht
            replace P := Lib.hid P; replace htk := Lib.hid htk; replace hg := Lib.hid hg; replace hsz := Lib.hid hsz
            go_wp2_with fail
            refine Calls.mono P.out ?_
            rintro e w3 ⟨rfl, hb3⟩
            have H3 := hst.out.thru hb3
            clear P hst
            replace H3 := Lib.hid H3
            go_wp2_with fail
            go_roundg (l.length - (j + 1))
            case measure => have := hg.out.out; omega
            case rel => exact ⟨j + 1, _, by omega, Lib.hid rfl, by go_num, rfl, Lib.hid htk.out, hsz.out, H3⟩
          | byt z =>
            unfold encFd at e0
            have P := bput_any m (some ⟨q, 0, none⟩) z.length z.length t (by omega) (by omega) wr
            rw [e7.out] at P
            rw [show putF m t (.byt z) = t ++ m.dat from rfl] at htk hsz3
            generalize t ++ m.dat = t2 at P htk hsz3
            replace hsz := hsz3
            clear hsz3 hf ht
            replace P := Lib.hid P; replace htk := Lib.hid htk; replace hg := Lib.hid hg; replace hsz := Lib.hid hsz
            go_wp2_with fail
            refine Calls.mono P.out ?_
            rintro e w3 ⟨rfl, hb3⟩
            have H3 := hst.out.thru hb3
            clear P hst
            replace H3 := Lib.hid H3
            go_wp2_with fail
            go_roundg (l.length - (j + 1))
            case measure => have := hg.out.out; omega
            case rel => exact ⟨j + 1, _, by omega, Lib.hid rfl, by go_num, rfl, Lib.hid htk.out, hsz.out, H3⟩
        · have hj2 : l.take j = l := List.take_of_length_le (by omega)
          rw [hj2, ← hT.out] at ht
          have hlt' : ¬ (j : Int) < l.length := by omega
          obtain ⟨zo, co, fo⟩ := hst.out.box 2 rfl
          have H0 := hst.out.front 2 rfl
          have H5 := ((((H0).set 0 rfl 0 (.int .i64 46) (by simp))).set 0 rfl 1 (.string t) (by simp))
          clear H0 hj2 hsz hT
          replace H5 := Lib.hid H5
          go_wp2_with fail
          exact bodyPost_ret (v := .tuple #[.agg #[.int .i64 46, .string t], .int .i64 0]) (by simp [results, Try.results7, go_sem, zo, co, fo]) rfl (H5.out.ret (by rw [ht.out]))
  · have hv : putV m = ((0, ⟨#[]⟩), checkM m) := by
      unfold putV
      cases hf : fieldsO m.kind with
      | none => rfl
      | some l => simp only []; rw [if_neg hc]
    rw [hv]
    have q0 : (checkM m != 0) = true := by simpa using hc
    have q1 : decide (checkM m = 0) = false := decide_eq_false hc
    clear hv hc
    generalize checkM m = c at *
    obtain ⟨kind, addr, prio, num, token, nonce, dat⟩ := m
    unfold encM at *
    replace H := Lib.hid H; replace P := Lib.hid P; replace hgm := Lib.hid hgm; replace hd := Lib.hid hd
    go_enter Try.func7, Try.ntmps7
    go_wp2_with fail
    refine Calls.mono (P.out _) ?_
    rintro e w1 ⟨rfl, hb1⟩
    have z1 := Below.size hb1; try simp only [World.size_alloc, World.size_setCell, World.size_drew] at z1
    have H1 := H.out.thru hb1
    obtain ⟨zo, co, fo⟩ := H1.box 0 rfl
    have H5 := ((((H1).set 0 rfl 0 (.int .i64 0) (by simp))).set 0 rfl 1 (.string ⟨#[]⟩) (by simp))
    clear P H H1
    replace H5 := Lib.hid H5
    go_wp2_with fail
    exact bodyPost_ret (v := .tuple #[.agg #[.int .i64 0, .string ⟨#[]⟩], .int .i64 c]) (by simp [results, Try.results7, go_sem, zo, co, fo]) rfl (H5.out.ret rfl)
end Go.Proofs.Ytpajedpkdfacoaa.Mp
