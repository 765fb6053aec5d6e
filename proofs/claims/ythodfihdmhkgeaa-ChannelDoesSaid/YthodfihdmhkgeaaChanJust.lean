/- The walk of the statement ChannelJust. -/
import Derived.Test.YthodfihdmhkgeaaChanRecv
import Derived.Test.YthodfihdmhkgeaaChanChain
import Derived.Test.YthodfihdmhkgeaaChanParts
import Derived.Deep.RegionLaw
namespace Go.Proofs.Ythodfihdmhkgeaa.Chan
set_option linter.unusedSimpArgs false
set_option linter.unusedVariables false
open Go Go.RowKit Go.Proofs.Ythodfihdmhkgeaa Go.Proofs.Ythodfihdmhkgeaa.DockDg
attribute [local irreducible] Calls

section
variable {c : Nat} {last : Int} {l : List El} {w W : World} {S0 : Nat → Prop} {r : List Asn}
theorem send_st (s : ByteArray) (hsm : l.length ≤ 100000) (H : St W S0 w (chanA c last l :: r)) :
    Calls Try.prog 44 #[.pointer (some ⟨c, 0, none⟩), .string s] w (Fin W S0 (.int .i64 ((l.length : Int) + 1)) (chanA c last (l ++ [((l.length : Int) + 1, s)]) :: r)) :=
  Calls.st_at 0 H rfl fun _ hS => send_any s hsm hS
theorem may_st (d : El) (h0 : 0 ≤ last) (hd : isI64 d.1) (H : St W S0 w (chanA c last l :: r)) :
    Calls Try.prog 59 #[.pointer (some ⟨c, 0, none⟩), .agg #[.int .i64 d.1, .string d.2]] w (Ret w (.bool (mayB last l d))) := by
  obtain ⟨_, hS⟩ := H.held 0 rfl; exact may_any d h0 hd hS
theorem clast_st (H : St W S0 w (chanA c last l :: r)) : Calls Try.prog 60 #[.pointer (some ⟨c, 0, none⟩)] w (Ret w (.int .i64 last)) := by
  obtain ⟨_, hS⟩ := H.held 0 rfl; exact clast_any hS
theorem rest_st (h0 : 0 ≤ last) (h1 : last ≤ l.length) (hsm : l.length ≤ 100000) (H : St W S0 w (chanA c last l :: r)) : Calls Try.prog 62 #[.pointer (some ⟨c, 0, none⟩)] w (RetD w (l.drop last.toNat)) := by
  obtain ⟨_, hS⟩ := H.held 0 rfl; exact rest_any h0 h1 hsm hS
theorem recv_st (d : El) (h0 : 0 ≤ last) (hd : isI64 d.1) (H : St W S0 w (chanA c last l :: r)) :
    Calls Try.prog 45 #[.pointer (some ⟨c, 0, none⟩), .agg #[.int .i64 d.1, .string d.2]] w (Fin W S0 (.bool (mayB last l d)) (chanA c (if mayB last l d then d.1 else last) l :: r)) := by
  cases hm : mayB last l d with
  | true => exact Calls.st_at 0 H rfl fun _ hS => recv_yes d h0 hd hm hS
  | false =>
    obtain ⟨_, hS⟩ := H.held 0 rfl
    exact Calls.st_ret H (recv_no d h0 hd hm hS)
end

set_option maxRecDepth 100000 in
set_option maxHeartbeats 2000000 in
theorem just_walk (a : Option Addr) (n cap : Nat) (a' : Option Addr) (m cap' : Nat) (w : World) (h0 : Fits w (.slice 1 .str) [.slice a n cap]) (h1 : Fits w (.slice 2 (.cons 1 (.int .i64) (.cons 1 .str .nil))) [.slice a' m cap']) :
    Calls Try.prog 10 #[.slice a n cap, .slice a' m cap'] w (Ret w (.bool true)) := by
  obtain ⟨hn, _, D, hl, _, hD⟩ := strs_in h0
  obtain ⟨hm, _, got, gl, hgd, hG⟩ := dgs_in h1
  obtain ⟨i0, hi, hz, hz1, hz2⟩ := info_parts DelDg.el_info
  have hm' := hm
  unfold maxLen at hn hm
  clear h0 h1
  replace hl := Lib.hid hl; replace gl := Lib.hid gl; replace hD := Lib.hid hD; replace hG := Lib.hid hG; replace hgd := Lib.hid hgd
  go_enter Try.func10, Try.ntmps10
  go_wp2_with fail
  refine Calls.mono (works_law _) ?_
  rintro e w1 ⟨rfl, hb1⟩
  have z1 := Below.size hb1; try simp only [World.size_alloc, World.size_setCell, World.size_drew] at z1
  by_cases h150 : 150 < n
  · have q : decide ((150 : Int) < n) = true := decide_eq_true (by omega)
    go_wp2_with fail
    go_ret
    exact Ret.mk rfl (by repeat (first | with_reducible exact Below.refl _ _ | (with_reducible refine Below.al ?_) | (with_reducible refine Below.drew ?_) | (with_reducible refine Below.set ?_ (by first | (simp; done) | omega | (simp; omega))) | (with_reducible refine Below.thru ?_ (by assumption)) | (with_reducible refine Below.chg ?_ (by assumption) (by first | (simp; done) | omega | (simp; omega)))))
  · have q : decide ((150 : Int) < n) = false := decide_eq_false (by omega)
    have q150 : n ≤ 150 := by omega
    have hG1 := hG.out.below hb1
    replace hG1 := Lib.hid hG1
    go_wp2_with fail
    refine Calls.mono (great_any got m gl.out hm' a' cap' _ hG1.out) ?_
    rintro e w2 ⟨rfl, hb2⟩
    have z2 := Below.size hb2; try simp only [World.size_alloc, World.size_setCell, World.size_drew] at z2
    cases hgr : greatB got with
    | true =>
      go_wp2_with fail
      go_ret
      exact Ret.mk rfl (by repeat (first | with_reducible exact Below.refl _ _ | (with_reducible refine Below.al ?_) | (with_reducible refine Below.drew ?_) | (with_reducible refine Below.set ?_ (by first | (simp; done) | omega | (simp; omega))) | (with_reducible refine Below.thru ?_ (by assumption)) | (with_reducible refine Below.chg ?_ (by assumption) (by first | (simp; done) | omega | (simp; omega)))))
    | false =>
      obtain ⟨hg150, _⟩ := great_no hgr
      clear hgr
      go_wp2_with fail
      refine Calls.mono (cnew_any _) ?_
      rintro e w3 ⟨c, rfl, H3⟩
      have H3' : St w none0 w3 [chanA c 0 [], rowA 2 (.slice none 0 0) 0 (dgs [])] := ((((St.zero w).thru hb1).thru hb2).row_nil.add H3)
      clear H3
      replace H3' := Lib.hid H3'
      go_wp2_with fail
      go_loopg [6, 7] n (fun g sv i wr => ∃ (k : Nat) (l : List El), k ≤ n ∧ g = n - k ∧ i = .int .i64 k ∧ Hid (l.length = k) ∧ Hid (Numbered l) ∧ St w none0 wr [chanA c 0 l, rowA 2 sv l.length (dgs l)])
      case atStart => exact ⟨0, [], by omega, by omega, rfl, rfl, fun i h => by simp at h, H3'.out⟩
      case round =>
        obtain ⟨sv, hsv⟩ : ∃ sv, sv = u6 := ⟨_, rfl⟩
        subst hsv
        obtain ⟨k, l, hk, hg, rfl, hlk, hN, hst⟩ := hrel
        have hbw := hst.below
        have zw := hbw.size
        by_cases hlt : k < n
        · have hkl : k < D.length := by have := hl.out; omega
          obtain ⟨b, off, rfl, hb, hc⟩ := hD.out.cons (strs_ne hl.out hlt)
          have e0 : wr.cell? ⟨b, off + k, none⟩ = _ := ((Below.blk hbw (b := b) (by first | (simp; done) | omega | (simp; omega))).1 _).trans (hc k _ (strs_at hkl))
          have hbr : b < wr.heap.size := by omega
          have e0w := hc k _ (strs_at hkl)
          clear hc
          generalize D[k] = s at *
          by_cases hs : 1000 < s.size
          · have q2 : decide ((1000 : Int) < s.size) = true := decide_eq_true (by omega)
            replace hst := Lib.hid hst
            go_wp2_with fail
            go_ret
            exact hst.out.ret rfl
          · have q2 : decide ((1000 : Int) < s.size) = false := decide_eq_false (by omega)
            have hsm : l.length ≤ 100000 := by have := hlk.out; omega
            have P := send_st s hsm hst.drew
            replace hst := Lib.hid hst
            replace e0w := Lib.hid e0w
            have hlk' := hlk.out
            have hq : (l.length : Int) + 1 = (k : Int) + 1 := by omega
            clear hlk'
            replace hq := Lib.hid hq
            go_wp2_with fail
            go_region_law (first
              | (refine step_appS rfl _ _ _ rfl 32 i0 _ 2 24 Try.underlying22 hi hz hz1 hz2 rfl (by omega) 1 sv l.length (dgs l) rfl (show St w none0 _ [chanA c 0 (l ++ [((l.length : Int) + 1, s)]), rowA 2 sv l.length (dgs l)] from by repeat (first | exact H4.out | refine St.drew ?_ | refine St.skip ?_ _)) rfl _ _ [.int .i64 ((l.length : Int) + 1), .string s] rfl rfl (by intro j u hu; simpa using hu) (by simp [Value.oneCell']) (by omega) (by omega) ?_ (by omega); intro v5 w5 H5 hv5; obtain ⟨g5, o5, c5, hv5⟩ := hv5; rw [hv5] at H5 ⊢; replace H5 := Lib.hid H5)
              | (go_simp; go_at_call 44; refine Calls.mono P ?_; rintro e w4 ⟨rfl, H4⟩; have e4 := ((H4.old hb id).1 (off + k)).trans e0w.out; have hb4 : b < w4.heap.size := Nat.lt_of_lt_of_le hb H4.size; replace H4 := Lib.hid H4))
            all_goals
              go_wp2_with fail
              go_roundg (n - (k + 1))
              case measure => omega
              case rel =>
                refine ⟨k + 1, l ++ [((l.length : Int) + 1, s)], by omega, rfl, by go_num, by show _ = _; rw [List.length_append]; have := hlk.out; simp; omega, hN.out.snoc s, ?_⟩
                rw [List.length_append, ← dgs_app]
                exact H5.out.front 1 rfl
        · obtain rfl : k = n := by omega
          have hjust := recv_just hN.out got
          have hlen150 : l.length = k := hlk.out
          replace hlen150 := Lib.hid hlen150
          replace hst := Lib.hid hst; replace hjust := Lib.hid hjust
          go_wp2_with fail
          clear zw
          go_loopg [8, 9] m (fun g al i wr => ∃ j : Nat, j ≤ m ∧ g = m - j ∧ i = .int .i64 j ∧ al = .bool (recvF l (got.take j)).2 ∧ St w none0 wr [chanA c (recvF l (got.take j)).1 l, rowA 2 sv l.length (dgs l)])
          case atStart => exact ⟨0, by omega, by omega, rfl, rfl, hst.out⟩
          case round =>
            obtain ⟨j, hj, hgj, rfl, rfl, hst2⟩ := hrel
            by_cases hltj : j < m
            · have hjl : j < got.length := by have := gl.out; omega
              obtain ⟨b, off, rfl, hb, hc⟩ := dgs_at (hG.out.of_st hst2) gl.out (by omega)
              obtain ⟨e0, e1⟩ := hc j hjl
              clear hc
              have hgood := (hgd.out got[j] (List.getElem_mem hjl)).1
              have hnx := recv_take (l := l) hjl
              have hbd := recv_bd hN.out (got.take j)
              generalize got[j] = d at *
              generalize recvF l (got.take j) = xa at *
              obtain ⟨x, al⟩ := xa
              simp only at hbd hst2
              have P := recv_st d hbd.1 hgood hst2
              obtain ⟨dn, ds⟩ := d
              simp only at e0 e1
              unfold recvS at hnx
              simp only at hnx
              replace hnx := Lib.hid hnx
              clear hst2 hbd hgood
              generalize mayB x l (dn, ds) = mb at *
              go_wp2_with fail
              refine Calls.mono P ?_
              rintro e w5 ⟨rfl, H5⟩
              replace H5 := Lib.hid H5
              clear P
              cases mb
              all_goals
                go_wp2_with fail
                go_roundg (m - (j + 1))
                case measure => omega
                case rel => exact ⟨j + 1, by omega, rfl, by go_num, by rw [hnx.out]; simp, by rw [hnx.out]; exact H5.out⟩
            · obtain rfl : j = m := by omega
              have e : got.take j = got := List.take_of_length_le (by have := gl.out; omega)
              rw [e] at hst2 ⊢
              rw [hjust.out]
              clear e
              have hbw := hst2.below
              obtain ⟨a3, c3, rfl, hn3, _, R3⟩ := (hst2.row 1 rfl).rd (by omega)
              have G := hG.out.below hbw
              replace R3 := Lib.hid R3; replace G := Lib.hid G
              clear hst2
              go_wp2_with fail
              refine Calls.mono (rising_any got j gl.out hm' a' cap' _ G.out) ?_
              rintro e w5 ⟨rfl, hb5⟩
              have z5 := Below.size hb5; try simp only [World.size_alloc, World.size_setCell, World.size_drew] at z5
              cases hr : risingB got with
              | false =>
                go_wp2_with fail
                go_ret
                exact Ret.mk rfl (by repeat (first | with_reducible exact Below.refl _ _ | (with_reducible refine Below.al ?_) | (with_reducible refine Below.drew ?_) | (with_reducible refine Below.set ?_ (by first | (simp; done) | omega | (simp; omega))) | (with_reducible refine Below.thru ?_ (by assumption)) | (with_reducible refine Below.chg ?_ (by assumption) (by first | (simp; done) | omega | (simp; omega)))))
              | true =>
                have R5 := R3.out.below hb5
                have G5 := G.out.below hb5
                replace R5 := Lib.hid R5; replace G5 := Lib.hid G5; replace hr := Lib.hid hr
                go_wp2_with fail
                refine Calls.mono (part_any l got l.length j rfl hn3 gl.out hm' a3 c3 a' cap' _ R5.out G5.out) ?_
                rintro e w6 ⟨rfl, hb6⟩
                have z6 := Below.size hb6; try simp only [World.size_alloc, World.size_setCell, World.size_drew] at z6
                cases hp : partB l got with
                | false =>
                  go_wp2_with fail
                  go_ret
                  exact Ret.mk rfl (by repeat (first | with_reducible exact Below.refl _ _ | (with_reducible refine Below.al ?_) | (with_reducible refine Below.drew ?_) | (with_reducible refine Below.set ?_ (by first | (simp; done) | omega | (simp; omega))) | (with_reducible refine Below.thru ?_ (by assumption)) | (with_reducible refine Below.chg ?_ (by assumption) (by first | (simp; done) | omega | (simp; omega)))))
                | true =>
                  go_wp2_with fail
                  go_ret
                  exact Ret.mk rfl (by repeat (first | with_reducible exact Below.refl _ _ | (with_reducible refine Below.al ?_) | (with_reducible refine Below.drew ?_) | (with_reducible refine Below.set ?_ (by first | (simp; done) | omega | (simp; omega))) | (with_reducible refine Below.thru ?_ (by assumption)) | (with_reducible refine Below.chg ?_ (by assumption) (by first | (simp; done) | omega | (simp; omega)))))
end Go.Proofs.Ythodfihdmhkgeaa.Chan
