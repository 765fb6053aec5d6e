/- The walk of mpopt.Get. -/
import Derived.Test.YtpajedpkdfacoaaMpReadB
namespace Go.Proofs.Ytpajedpkdfacoaa.Mp
set_option linter.unusedSimpArgs false
set_option linter.unusedVariables false
open Go Go.RowKit Go.Shelf Go.Proofs.Ytpajedpkdfacoaa Go.Proofs.Ytpajedpkdfacoaa.Octets
attribute [local irreducible] Calls

/-- Reading under way: what was read, how far, what failed. -/
structure Rs where
  m : Mu
  at_ : Nat
  fell : Int
def readF (t : ByteArray) (s : Rs) : Fd → Rs
  | .num i n => ⟨setM s.m i (numV t s.at_ s.fell n), numA t s.at_ s.fell n, numF t s.at_ s.fell n⟩
  | .byt z => ⟨{ s.m with dat := bytesV t s.at_ s.fell (widest ((t.size : Int) - s.at_) z (z.headD 0)) }, bytesA t s.at_ s.fell (widest ((t.size : Int) - s.at_) z (z.headD 0)), bytesF t s.at_ s.fell (widest ((t.size : Int) - s.at_) z (z.headD 0))⟩
/-- What Get comes to. -/
def getV (k : Int) (t : ByteArray) : Mu × Int :=
  if k ≠ 46 then (zeroM, 7)
  else if t.size = 0 then (zeroM, 1)
  else match fieldsO (numV t 0 0 1) with
    | none => (zeroM, 7)
    | some l =>
      let s := l.foldl (readF t) ⟨{ zeroM with kind := numV t 0 0 1 }, numA t 0 0 1, numF t 0 0 1⟩
      if doneF t s.at_ s.fell = 0 then (s.m, 0) else (zeroM, doneF t s.at_ s.fell)
theorem num_ok (s : ByteArray) (at_ : Nat) (fell n : Int) (h : okCut s at_ fell) : okCut s (numA s at_ fell n) (numF s at_ fell n) := by
  obtain ⟨h0, h1, h2, h3⟩ := h
  have hx : takeF s at_ fell n (bad n) = 0 → fell = 0 ∧ 1 ≤ n ∧ n ≤ (s.size : Int) - at_ := by
    intro h
    obtain ⟨a, b, c⟩ := takeF_zero h ⟨h0, h1, h2, h3⟩
    unfold bad at b
    simp at b
    omega
  have hr : 0 ≤ takeF s at_ fell n (bad n) ∧ takeF s at_ fell n (bad n) ≤ 100 := by
    unfold takeF
    repeat' split
    all_goals omega
  unfold numA numF okCut
  split
  · rename_i h
    have := hx h
    omega
  · omega
theorem readF_ok (t : ByteArray) (s : Rs) (f : Fd) (h : okCut t s.at_ s.fell) : okCut t (readF t s f).at_ (readF t s f).fell := by
  cases f with
  | num i n => exact num_ok t s.at_ s.fell n h
  | byt z => exact bytes_ok t s.at_ s.fell _ h
theorem new_st (t : ByteArray) (w : World) : Calls Try.prog 34 #[.string t] w (fun e w' => ∃ c, e = .returned (.pointer (some ⟨c, 0, none⟩)) ∧ St w none0 w' [cellA c (cut t 0 0)]) := by
  have H : St w none0 _ [cellA w.heap.size (cut t 0 0)] := (St.zero w).alloc [.string t, .int .i64 0, .int .i64 0] 128
  replace H := Lib.hid H
  go_enter Try.func34, Try.ntmps34
  go_wp2_with fail
  go_ret
  exact ⟨_, rfl, H.out⟩
theorem encM_lit (m : Mu) : encM m = [.int .i64 m.kind, .int .i64 m.addr, .int .i64 m.prio, .int .i64 m.num, .int .i64 m.token, .int .i64 m.nonce, .string m.dat] := rfl
set_option maxRecDepth 100000 in
set_option maxHeartbeats 1000000 in
theorem get_any (k : Int) (t : ByteArray) (ht : t.size ≤ 900000000) (w : World) : Calls Try.prog 9 #[.agg #[.int .i64 k, .string t]] w (Ret w (.tuple #[.agg (encM (getV k t).1).toArray, .int .i64 (getV k t).2])) := by
  have H := (((St.zero w).alloc [.int .i64 k, .string t] 26).alloc [.int .i64 0, .int .i64 0, .int .i64 0, .int .i64 0, .int .i64 0, .int .i64 0, .string ⟨#[]⟩] 23).alloc [.int .i64 0, .int .i64 0, .int .i64 0, .int .i64 0, .int .i64 0, .int .i64 0, .string ⟨#[]⟩] 23
  simp only [World.size_alloc] at H
  by_cases hk : k = 46
  · subst hk
    by_cases h0 : t.size = 0
    · have hv : getV 46 t = (zeroM, 1) := by unfold getV; rw [if_neg (by simp), if_pos h0]
      rw [hv]
      have q4 : t.toList.isEmpty = true := by rw [(toList_nil t).2 h0]; rfl
      have q5 : t.toList = [] := (toList_nil t).2 h0
      obtain rfl : t = ⟨#[]⟩ := by
        obtain ⟨⟨l⟩⟩ := t
        have : l.length = 0 := h0
        rw [List.eq_nil_of_length_eq_zero this]
      clear hv h0 q4 q5
      replace H := Lib.hid H; replace ht := Lib.hid ht
      go_enter Try.func9, Try.ntmps9
      go_wp2_with fail
      exact bodyPost_ret (v := .tuple #[.agg (encM zeroM).toArray, .int .i64 1]) (by simp [results, Try.results9, go_sem, encM, zeroM]) rfl (H.out.ret rfl)
    · have q4 : t.toList.isEmpty = false := by
        cases hq : t.toList with
        | nil => exact absurd ((toList_nil t).1 hq) h0
        | cons a b => rfl
      have q5 : ¬ t.toList = [] := fun h => h0 ((toList_nil t).1 h)
      obtain ⟨R, hR⟩ : ∃ R, R = getV 46 t := ⟨_, rfl⟩
      rw [← hR]
      unfold getV at hR
      rw [if_neg (by simp), if_neg h0] at hR
      have ok0 : okCut t 0 0 := ⟨by omega, by omega, by omega, by omega⟩
      have ok1 := num_ok t 0 0 1 ok0
      replace q5 := Lib.hid q5
      clear h0
      replace H := Lib.hid H; replace ht := Lib.hid ht; replace hR := Lib.hid hR; replace ok0 := Lib.hid ok0; replace ok1 := Lib.hid ok1
      go_enter Try.func9, Try.ntmps9
      go_wp2_with fail
      refine Calls.mono (new_st t _) ?_
      rintro e w1 ⟨c, rfl, HN⟩
      have H1 := H.out.add HN
      have P := num_any c t 0 0 1 w1 (H1.box 0 rfl) ok0.out (by omega)
      clear H HN
      replace H1 := Lib.hid H1; replace P := Lib.hid P
      go_wp2_with fail
      refine Calls.mono P.out ?_
      rintro e w2 h2
      obtain ⟨rfl, H2⟩ := St.ofC H1.out h2
      generalize numV t 0 0 1 = kd at *
      generalize numA t 0 0 1 = a1 at *
      generalize numF t 0 0 1 = f1 at *
      have H3 := H2.alloc [.int .i64 kd, .int .i64 0, .int .i64 0, .int .i64 0, .int .i64 0, .int .i64 0, .string ⟨#[]⟩] 23
      have H4 : St w none0 _ [cellA w2.heap.size (encM { zeroM with kind := kd }), cellA c (cut t a1 f1), cellA (w.heap.size + 1) [.int .i64 0, .int .i64 0, .int .i64 0, .int .i64 0, .int .i64 0, .int .i64 0, .string ⟨#[]⟩], cellA (w.heap.size + 1 + 1) [.int .i64 0, .int .i64 0, .int .i64 0, .int .i64 0, .int .i64 0, .int .i64 0, .string ⟨#[]⟩]] := (H3.arrN [0, 1, 3, 2] rfl).drops 4
      obtain ⟨zn, cn, fn⟩ := H4.box 3 rfl
      clear P H1 h2 H2 H3
      cases hf : fieldsO kd with
      | none =>
        rw [hf] at hR
        have P2 := of_none kd hf
        replace H4 := Lib.hid H4; replace P2 := Lib.hid P2
        go_wp2_with fail
        refine Calls.mono (P2.out _) ?_
        rintro e w3 ⟨rfl, hb3⟩
        have z3 := Below.size hb3; try simp only [World.size_alloc, World.size_setCell, World.size_drew] at z3
        have H6 := H4.out.thru hb3
        obtain ⟨zn3, cn3, fn3⟩ := H6.box 3 rfl
        clear P2 H4 zn cn fn
        obtain ⟨zo, co, fo⟩ := H6.box 2 rfl
        have H0 : St w none0 _ (cellA (w.heap.size + 1) [.int .i64 0, .int .i64 0, .int .i64 0, .int .i64 0, .int .i64 0, .int .i64 0, .string ⟨#[]⟩] :: _) := H6.front 2 rfl
        have H5 := ((((((((((((((H0).set 0 rfl 0 (.int .i64 zeroM.kind) (by simp))).set 0 rfl 1 (.int .i64 zeroM.addr) (by simp))).set 0 rfl 2 (.int .i64 zeroM.prio) (by simp))).set 0 rfl 3 (.int .i64 zeroM.num) (by simp))).set 0 rfl 4 (.int .i64 zeroM.token) (by simp))).set 0 rfl 5 (.int .i64 zeroM.nonce) (by simp))).set 0 rfl 6 (.string zeroM.dat) (by simp))
        clear H0
        replace H5 := Lib.hid H5
        replace H6 := Lib.hid H6
        go_wp2_with fail
        exact bodyPost_ret (v := .tuple #[.agg (encM zeroM).toArray, .int .i64 7]) (by simp [results, Try.results9, go_sem, zo, co, fo, encM, zeroM]) rfl (H5.out.ret (by rw [hR.out]))
      | some l =>
        rw [hf] at hR
        simp only [] at hR
        obtain ⟨hl3, hok⟩ := fields_ok hf
        have P2 := of_any kd l hf
        replace H4 := Lib.hid H4; replace P2 := Lib.hid P2; replace hok := Lib.hid hok
        go_wp2_with fail
        refine Calls.mono (P2.out _) ?_
        rintro e w3 ⟨b, q, rfl, HP⟩
        have H5 := H4.out.add HP
        obtain ⟨s0, hs0⟩ : ∃ s0 : Rs, s0 = ⟨{ zeroM with kind := kd }, a1, f1⟩ := ⟨_, rfl⟩
        rw [← hs0] at hR
        have H6 : St w none0 w3 [cellA w2.heap.size (encM s0.m), cellA c (cut t s0.at_ s0.fell), cellA b (l.map (encFd q)), szA q l, cellA (w.heap.size + 1) [.int .i64 0, .int .i64 0, .int .i64 0, .int .i64 0, .int .i64 0, .int .i64 0, .string ⟨#[]⟩], cellA (w.heap.size + 1 + 1) [.int .i64 0, .int .i64 0, .int .i64 0, .int .i64 0, .int .i64 0, .int .i64 0, .string ⟨#[]⟩]] := by rw [hs0]; exact H5.arrN [2, 3, 0, 1] rfl
        have ok2 : okCut t s0.at_ s0.fell := by rw [hs0]; exact ok1.out
        clear P2 HP H4 H5 zn cn fn hs0 hf
        replace H6 := Lib.hid H6; replace ok2 := Lib.hid ok2
        go_wp2_with fail
        go_loopg [10, 39] l.length (fun g _ v39 wr => ∃ (j : Nat) (s : Rs), j ≤ l.length ∧ Hid (g = l.length - j) ∧ v39 = .int .i64 j ∧ Hid (s = (l.take j).foldl (readF t) s0) ∧ Hid (okCut t s.at_ s.fell) ∧ Hid (St w none0 wr [cellA w2.heap.size (encM s.m), cellA c (cut t s.at_ s.fell), cellA b (l.map (encFd q)), szA q l, cellA (w.heap.size + 1) [.int .i64 0, .int .i64 0, .int .i64 0, .int .i64 0, .int .i64 0, .int .i64 0, .string ⟨#[]⟩], cellA (w.heap.size + 1 + 1) [.int .i64 0, .int .i64 0, .int .i64 0, .int .i64 0, .int .i64 0, .int .i64 0, .string ⟨#[]⟩]]))
        case atStart => exact ⟨0, s0, by omega, Lib.hid rfl, rfl, Lib.hid rfl, ok2, H6⟩
        case round =>
          obtain ⟨j, s, hj, hg, rfl, hsj, hoc, hst⟩ := hrel
          clear H6 ok2
          by_cases hlt : j < l.length
          · obtain ⟨zb, cb, fb⟩ := hst.out.box 2 rfl
            have e0 : wr.cell? ⟨b, j, none⟩ = some (encFd q l[j]) := (cb j).trans (by simp [hlt])
            have hf := hok.out l[j] (List.getElem_mem hlt)
            have hnx : readF t s l[j] = (l.take (j + 1)).foldl (readF t) s0 := by rw [List.take_succ_eq_append_getElem hlt, List.foldl_append, ← hsj.out]; rfl
            have hoc2 := readF_ok t s l[j] hoc.out
            have hlt' : (j : Int) < l.length := by omega
            generalize l[j] = x at *
            clear cb
            cases x with
            | num i n =>
              obtain ⟨hi, hn⟩ := hf
              unfold encFd at e0
              have P := nread_st s.m w2.heap.size c t s.at_ s.fell hoc.out i n hi hn hst.out
              clear hi hn hsj hoc
              replace hnx := Lib.hid hnx; replace hoc2 := Lib.hid hoc2; replace P := Lib.hid P
              go_wp2_with fail
              refine Calls.mono P.out ?_
              rintro e w5 ⟨⟨v5, rfl⟩, H7⟩
              clear P hst
              replace H7 := Lib.hid H7
              go_wp2_with fail
              go_roundg (l.length - (j + 1))
              case measure => have := hg.out; omega
              case rel => exact ⟨j + 1, _, by omega, Lib.hid rfl, by go_num, hnx, hoc2, H7⟩
            | byt z =>
              obtain ⟨_, hsz, hz⟩ := hf
              obtain ⟨z0, z1, rfl, hzb, hzl⟩ : ∃ z0 z1, z = z0 :: z1 ∧ (∀ k ∈ z0 :: z1, 0 ≤ k ∧ k ≤ 1000) ∧ (z0 :: z1).length ≤ 1000 := by
                rcases hz with rfl | rfl
                · exact ⟨32, [], rfl, by simp, by simp⟩
                · exact ⟨8, [16], rfl, by simp, by simp⟩
              unfold encFd at e0
              have hst2 := hst.out
              rw [hsz q] at hst2
              have P := bread_st s.m w2.heap.size c q t s.at_ s.fell hoc.out z0 z1 hzb hzl (hst2.arrN [0, 1, 3, 2] rfl)
              clear hsj hoc hz hst2
              replace hnx := Lib.hid hnx; replace hoc2 := Lib.hid hoc2; replace P := Lib.hid P; replace hsz := Lib.hid hsz; replace hzb := Lib.hid hzb; replace hzl := Lib.hid hzl
              go_wp2_with fail
              refine Calls.mono P.out ?_
              rintro e w5 ⟨⟨v5, rfl⟩, H7⟩
              have H8 := H7.arrN [0, 1, 3, 2] rfl
              have H9 : St w none0 w5 [cellA w2.heap.size (encM (readF t s (.byt (z0 :: z1))).m), cellA c (cut t (readF t s (.byt (z0 :: z1))).at_ (readF t s (.byt (z0 :: z1))).fell), cellA b (l.map (encFd q)), szA q l, cellA (w.heap.size + 1) [.int .i64 0, .int .i64 0, .int .i64 0, .int .i64 0, .int .i64 0, .int .i64 0, .string ⟨#[]⟩], cellA (w.heap.size + 1 + 1) [.int .i64 0, .int .i64 0, .int .i64 0, .int .i64 0, .int .i64 0, .int .i64 0, .string ⟨#[]⟩]] := by rw [hsz.out q]; exact H8
              clear P hst H7 H8
              replace H9 := Lib.hid H9
              go_wp2_with fail
              go_roundg (l.length - (j + 1))
              case measure => have := hg.out; omega
              case rel => exact ⟨j + 1, _, by omega, Lib.hid rfl, by go_num, hnx, hoc2, H9⟩
          · have hj2 : l.take j = l := List.take_of_length_le (by omega)
            rw [hj2] at hsj
            rw [← hsj.out] at hR
            have hlt' : ¬ (j : Int) < l.length := by omega
            have P := done_any c t s.at_ s.fell wr (hst.out.box 1 rfl) hoc.out
            clear hj2 hsj hoc
            by_cases hd : doneF t s.at_ s.fell = 0
            · rw [hd] at P
              have hR2 : R = (s.m, 0) := by rw [hR.out, if_pos hd]
              clear hR hd
              obtain ⟨m, a2, f2⟩ := s
              simp only [] at *
              replace P := Lib.hid P; replace hR2 := Lib.hid hR2
              go_wp2_with fail
              refine Calls.mono (P.out) ?_
              rintro e w5 ⟨rfl, hb5⟩
              have z5 := Below.size hb5; try simp only [World.size_alloc, World.size_setCell, World.size_drew] at z5
              have H6 := hst.out.thru hb5
              obtain ⟨zm, cm, fm⟩ := H6.box 0 rfl
              rw [encM_lit] at cm
              clear P hst
              obtain ⟨zo, co, fo⟩ := H6.box 4 rfl
              have H0 : St w none0 _ (cellA (w.heap.size + 1) [.int .i64 0, .int .i64 0, .int .i64 0, .int .i64 0, .int .i64 0, .int .i64 0, .string ⟨#[]⟩] :: _) := H6.front 4 rfl
              have H5 := ((((((((((((((H0).set 0 rfl 0 (.int .i64 m.kind) (by simp))).set 0 rfl 1 (.int .i64 m.addr) (by simp))).set 0 rfl 2 (.int .i64 m.prio) (by simp))).set 0 rfl 3 (.int .i64 m.num) (by simp))).set 0 rfl 4 (.int .i64 m.token) (by simp))).set 0 rfl 5 (.int .i64 m.nonce) (by simp))).set 0 rfl 6 (.string m.dat) (by simp))
              clear H0
              replace H5 := Lib.hid H5
              replace H6 := Lib.hid H6
              go_wp2_with fail
              exact bodyPost_ret (v := .tuple #[.agg (encM m).toArray, .int .i64 0]) (by simp [results, Try.results9, go_sem, zo, co, fo, encM]) rfl (H5.out.ret (by rw [hR2.out]))
            · have hR2 : R = (zeroM, doneF t s.at_ s.fell) := by rw [hR.out, if_neg hd]
              have q8 : (doneF t s.at_ s.fell != 0) = true := by simpa using hd
              have q9 : decide (doneF t s.at_ s.fell = 0) = false := decide_eq_false hd
              clear hR hd
              generalize doneF t s.at_ s.fell = e at *
              replace P := Lib.hid P; replace hR2 := Lib.hid hR2
              go_wp2_with fail
              refine Calls.mono (P.out) ?_
              rintro e w5 ⟨rfl, hb5⟩
              have z5 := Below.size hb5; try simp only [World.size_alloc, World.size_setCell, World.size_drew] at z5
              have H6 := hst.out.thru hb5
              obtain ⟨zm, cm, fm⟩ := H6.box 5 rfl
              clear P hst
              obtain ⟨zo, co, fo⟩ := H6.box 4 rfl
              have H0 : St w none0 _ (cellA (w.heap.size + 1) [.int .i64 0, .int .i64 0, .int .i64 0, .int .i64 0, .int .i64 0, .int .i64 0, .string ⟨#[]⟩] :: _) := H6.front 4 rfl
              have H5 := ((((((((((((((H0).set 0 rfl 0 (.int .i64 zeroM.kind) (by simp))).set 0 rfl 1 (.int .i64 zeroM.addr) (by simp))).set 0 rfl 2 (.int .i64 zeroM.prio) (by simp))).set 0 rfl 3 (.int .i64 zeroM.num) (by simp))).set 0 rfl 4 (.int .i64 zeroM.token) (by simp))).set 0 rfl 5 (.int .i64 zeroM.nonce) (by simp))).set 0 rfl 6 (.string zeroM.dat) (by simp))
              clear H0
              replace H5 := Lib.hid H5
              replace H6 := Lib.hid H6
              go_wp2_with fail
              exact bodyPost_ret (v := .tuple #[.agg (encM zeroM).toArray, .int .i64 e]) (by simp [results, Try.results9, go_sem, zo, co, fo, encM, zeroM]) rfl (H5.out.ret (by rw [hR2.out]))
  · have hv : getV k t = (zeroM, 7) := by unfold getV; rw [if_pos hk]
    rw [hv]
    have q0 : (k != 46) = true := by simpa using hk
    have q1 : decide (k = 46) = false := decide_eq_false hk
    clear hv hk
    replace H := Lib.hid H; replace ht := Lib.hid ht
    go_enter Try.func9, Try.ntmps9
    go_wp2_with fail
    exact bodyPost_ret (v := .tuple #[.agg (encM zeroM).toArray, .int .i64 7]) (by simp [results, Try.results9, go_sem, encM, zeroM]) rfl (H.out.ret rfl)
end Go.Proofs.Ytpajedpkdfacoaa.Mp
