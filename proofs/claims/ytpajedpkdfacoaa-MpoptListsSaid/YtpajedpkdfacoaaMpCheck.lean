/- The walk of mpopt.Check. -/
import Derived.Test.YtpajedpkdfacoaaMpSpare
namespace Go.Proofs.Ytpajedpkdfacoaa.Mp
set_option linter.unusedSimpArgs false
set_option linter.unusedVariables false
open Go Go.RowKit Go.Shelf Go.Proofs.Ytpajedpkdfacoaa Go.Proofs.Ytpajedpkdfacoaa.Octets
attribute [local irreducible] Calls

/-- The fields as a box, and the sizes. -/
theorem box_of_sz {W w : World} {S0 : Nat → Prop} {r : List Asn} {b q : Nat} {l : List Fd} {z : List Int} (H : St W S0 w (cellA b (l.map (encFd q)) :: szA q l :: r)) (h : szA q l = cellA q (i64s z)) : Box w q (i64s z) := by
  rw [h] at H
  exact H.box 1 rfl
theorem toList_nil (b : ByteArray) : b.toList = [] ↔ b.size = 0 := by
  rw [ByteArray.toList_eq]
  have e : b.data.toList.length = b.size := by simp
  constructor
  · intro h; rw [h] at e; exact e.symm
  · intro h; exact List.eq_nil_of_length_eq_zero (e.trans h)
set_option maxRecDepth 100000 in
set_option maxHeartbeats 400000 in
theorem check_any (m : Mu) (hd : m.dat.size ≤ 900000000) (w : World) : Calls Try.prog 10 #[.agg (encM m).toArray] w (Ret w (.int .i64 (checkM m))) := by
  have H := (St.zero w).alloc (encM m) 23
  have ek : (encM m)[0]? = some (.int .i64 m.kind) := rfl
  unfold checkM
  cases hf : fieldsO m.kind with
  | none =>
    have P := of_none m.kind hf
    obtain ⟨kind, addr, prio, num, token, nonce, dat⟩ := m
    simp only []
    unfold encM at *
    replace H := Lib.hid H; replace hf := Lib.hid hf
    simp only [] at P
    replace P := Lib.hid P
    go_enter Try.func10, Try.ntmps10
    go_wp2_with fail
    refine Calls.mono (P.out _) ?_
    rintro e w1 ⟨rfl, hb1⟩
    have z1 := Below.size hb1; try simp only [World.size_alloc, World.size_setCell, World.size_drew] at z1
    have H1 := H.out.thru hb1
    clear P H
    replace H1 := Lib.hid H1
    go_wp2_with fail
    go_ret
    exact H1.out.ret rfl
  | some l =>
    obtain ⟨hl3, hok⟩ := fields_ok hf
    have P := of_any m.kind l hf
    simp only []
    obtain ⟨r, hr⟩ : ∃ r, r = (if chkL m l = 0 then if isZero (spareM m l) = true then 0 else 4 else chkL m l) := ⟨_, rfl⟩
    rw [← hr]
    obtain ⟨kind, addr, prio, num, token, nonce, dat⟩ := m
    obtain ⟨m, hm⟩ : ∃ m, m = (⟨kind, addr, prio, num, token, nonce, dat⟩ : Mu) := ⟨_, rfl⟩
    rw [← hm] at hr hd
    simp only [] at P
    unfold encM at *
    clear ek hf
    have e7 : Hid (encM m = [.int .i64 kind, .int .i64 addr, .int .i64 prio, .int .i64 num, .int .i64 token, .int .i64 nonce, .string dat]) := Lib.hid (by rw [hm]; rfl)
    replace H := Lib.hid H; replace hr := Lib.hid hr; replace P := Lib.hid P; replace hok := Lib.hid hok
    go_enter Try.func10, Try.ntmps10
    go_wp2_with fail
    refine Calls.mono (P.out _) ?_
    rintro e w1 ⟨b, q, rfl, HP⟩
    have H1 := H.out.add HP
    have H2 : St w none0 w1 [cellA b (l.map (encFd q)), szA q l, cellA w.heap.size (encM m)] := by rw [hm]; exact H1
    clear P H HP H1
    replace H2 := Lib.hid H2
    go_wp2_with fail
    go_loopg [6, 7, 18] l.length (fun g _ _ v18 wr => ∃ j : Nat, j ≤ l.length ∧ Hid (g = l.length - j) ∧ v18 = .int .i64 j ∧ Hid (chkL m l = chkL m (l.drop j)) ∧ Hid (St w none0 wr [cellA b (l.map (encFd q)), szA q l, cellA w.heap.size (encM m)]))
    case atStart => exact ⟨0, by omega, Lib.hid rfl, rfl, Lib.hid rfl, H2⟩
    case round =>
      obtain ⟨j, hj, hg, rfl, hch, hst⟩ := hrel
      clear H2
      by_cases hlt : j < l.length
      · obtain ⟨zb, cb, fb⟩ := hst.out.box 0 rfl
        have e0 : wr.cell? ⟨b, j, none⟩ = some (encFd q l[j]) := (cb j).trans (by simp [hlt])
        have hf := hok.out l[j] (List.getElem_mem hlt)
        have hdr : l.drop j = l[j] :: l.drop (j + 1) := List.drop_eq_getElem_cons hlt
        have hlt' : (j : Int) < l.length := by omega
        obtain ⟨zm, cm, fm⟩ := hst.out.box 2 rfl
        rw [e7.out] at cm
        generalize l[j] = x at *
        clear cb
        replace hdr := Lib.hid hdr
        cases x with
        | num i s =>
          obtain ⟨hi, hs⟩ := hf
          unfold encFd at e0
          have P := ncheck_any m i s hi hs wr
          rw [e7.out] at P
          have hc : chkL m l = if chkF m (.num i s) = 0 then chkL m (l.drop (j + 1)) else chkF m (.num i s) := by rw [hch.out, hdr.out, chkL]
          generalize chkF m (.num i s) = c at *
          clear hch hdr hi hs
          by_cases h0 : c = 0
          · subst h0
            rw [if_pos rfl] at hc
            replace P := Lib.hid P; replace hc := Lib.hid hc; replace hg := Lib.hid hg
            go_wp2_with fail
            refine Calls.mono P.out ?_
            rintro e w3 ⟨rfl, hb3⟩
            have H3 := hst.out.thru hb3
            clear P hst
            replace H3 := Lib.hid H3
            go_wp2_with fail
            go_roundg (l.length - (j + 1))
            case measure => have := hg.out.out; omega
            case rel => exact ⟨j + 1, by omega, Lib.hid rfl, by go_num, hc, H3⟩
          · rw [if_neg h0] at hc
            have q0 : (c != 0) = true := by simpa using h0
            have q1 : decide (c = 0) = false := decide_eq_false h0
            have hrc : r = c := by rw [hr.out, hc, if_neg h0]
            clear hr hc h0
            replace P := Lib.hid P; replace hrc := Lib.hid hrc
            go_wp2_with fail
            refine Calls.mono P.out ?_
            rintro e w3 ⟨rfl, hb3⟩
            have H3 := hst.out.thru hb3
            clear P hst
            replace H3 := Lib.hid H3
            go_wp2_with fail
            go_ret
            exact H3.out.ret (by rw [hrc.out]; rfl)
        | byt z =>
          obtain ⟨hz, hsz, _⟩ := hf
          unfold encFd at e0
          have P := bcheck_any m z q hz hd wr (box_of_sz hst.out (hsz q))
          rw [e7.out] at P
          have hc : chkL m l = if chkF m (.byt z) = 0 then chkL m (l.drop (j + 1)) else chkF m (.byt z) := by rw [hch.out, hdr.out, chkL]
          generalize chkF m (.byt z) = c at *
          clear hch hdr hsz
          by_cases h0 : c = 0
          · subst h0
            rw [if_pos rfl] at hc
            replace P := Lib.hid P; replace hc := Lib.hid hc; replace hg := Lib.hid hg
            go_wp2_with fail
            refine Calls.mono P.out ?_
            rintro e w3 ⟨rfl, hb3⟩
            have H3 := hst.out.thru hb3
            clear P hst
            replace H3 := Lib.hid H3
            go_wp2_with fail
            go_roundg (l.length - (j + 1))
            case measure => have := hg.out.out; omega
            case rel => exact ⟨j + 1, by omega, Lib.hid rfl, by go_num, hc, H3⟩
          · rw [if_neg h0] at hc
            have q0 : (c != 0) = true := by simpa using h0
            have q1 : decide (c = 0) = false := decide_eq_false h0
            have hrc : r = c := by rw [hr.out, hc, if_neg h0]
            clear hr hc h0
            replace P := Lib.hid P; replace hrc := Lib.hid hrc
            go_wp2_with fail
            refine Calls.mono P.out ?_
            rintro e w3 ⟨rfl, hb3⟩
            have H3 := hst.out.thru hb3
            clear P hst
            replace H3 := Lib.hid H3
            go_wp2_with fail
            go_ret
            exact H3.out.ret (by rw [hrc.out]; rfl)
      · have hj2 : l.drop j = [] := List.drop_of_length_le (by omega)
        rw [hj2] at hch
        have hch0 : chkL m l = 0 := hch.out
        have hlt' : ¬ (j : Int) < l.length := by omega
        obtain ⟨zm, cm, fm⟩ := hst.out.box 2 rfl
        have P := spare_any m l b q hl3 hok.out wr (hst.out.box 0 rfl)
        have hr1 := hr.out
        rw [if_pos hch0] at hr1
        rw [e7.out] at cm P
        generalize spareM m l = mm at *
        obtain ⟨k1, k2, k3, k4, k5, k6, k7⟩ := mm
        simp only [encM] at P
        clear hch hch0 hr hj2
        replace P := Lib.hid P; replace hr1 := Lib.hid hr1; replace hok := Lib.hid hok
        go_wp2_with fail
        refine Calls.mono P.out ?_
        rintro e w3 ⟨rfl, hb3⟩
        have H3 := hst.out.thru hb3
        clear P hst
        replace H3 := Lib.hid H3
        have h7 := toList_nil k7
        replace h7 := Lib.hid h7
        go_wp2_with fail
        all_goals (go_ret; have h8 := h7.out; refine H3.out.ret ?_; rw [hr1.out]; clear hr1 h7 H3 hm e7 hok fm cm; simp_all [isZero])
end Go.Proofs.Ytpajedpkdfacoaa.Mp
