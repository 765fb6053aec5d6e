/- The walk of anabranchlaw23.works. -/
import Derived.Test.YtpajedpkdfacoaaCcOwes
namespace Go.Proofs.Ytpajedpkdfacoaa.Ccid
set_option linter.unusedSimpArgs false
set_option linter.unusedVariables false
open Go Go.RowKit Go.Shelf Go.Proofs.Ytpajedpkdfacoaa Go.Proofs.Ytpajedpkdfacoaa.Circ
open Go.Proofs.Ytpajedpkdfacoaa.Flight (Un flightA putU putOk timeV OkU newsV newsL hearA leftU lostU newestU)
open Go.Proofs.Ytpajedpkdfacoaa.Heard (Hd heardA gotD)
open Go.Proofs.Ytpajedpkdfacoaa.Avec (Run runs findV eachL)
attribute [local irreducible] Calls

def x1 : Cc := ⟨⟨6, 16, 0, false, 0⟩, 1, 0, 32, 8, 0, true, 0, 4⟩
def wR : List Run := [⟨0, 3⟩]
def wU (l : List Un) : List (Int × Int × Int) := l.map fun u => (u.seq, u.at_, u.later)
theorem w_took {l : List Un} (h : wU l = [(0, 0, 0), (1, 0, 0), (2, 0, 0)]) : heardU l 2 wR 4 = ⟨[], 3, 0, 4⟩ ∧ l.length = 3 ∧ ∀ u ∈ l, OkU u := by
  replace h : l.map (fun u => (u.seq, u.at_, u.later)) = [(0, 0, 0), (1, 0, 0), (2, 0, 0)] := h
  obtain ⟨u1, l1, rfl, h1, h⟩ := List.map_eq_cons_iff.1 h
  obtain ⟨u2, l2, rfl, h2, h⟩ := List.map_eq_cons_iff.1 h
  obtain ⟨u3, l3, rfl, h3, h⟩ := List.map_eq_cons_iff.1 h
  obtain rfl := List.map_eq_nil_iff.1 h
  obtain ⟨b1, s1, a1, t1⟩ := u1
  obtain ⟨b2, s2, a2, t2⟩ := u2
  obtain ⟨b3, s3, a3, t3⟩ := u3
  injection h1 with h1 h1'
  injection h1' with h1' h1''
  injection h2 with h2 h2'
  injection h2' with h2' h2''
  injection h3 with h3 h3'
  injection h3' with h3' h3''
  simp only at h1 h1' h1'' h2 h2' h2'' h3 h3' h3''
  subst h1 h1' h1'' h2 h2' h2'' h3 h3' h3''
  refine ⟨rfl, rfl, ?_⟩
  intro u hu
  simp only [List.mem_cons, List.not_mem_nil, or_false] at hu
  unfold OkU
  rcases hu with rfl | rfl | rfl <;> simp
theorem w_x1 {l : List Un} (h : l.length = 3) : tookX l x0 ⟨[], 3, 0, 4⟩ 2 3 4 = x1 := by
  unfold tookX ackedX fullX
  rw [h]
  rfl
def w3 (m : Nat) : List (Int × Int × Int) := (List.range m).map fun i : Nat => ((i : Int), 0, 0)
theorem w3_put {l : List Un} {j : Nat} (h : wU l = w3 j) (hj : j < 3) (u : Nat) : wU (putU l u (j : Int) 0) = w3 (j + 1) := by
  have hl : l.length = j := by have := congrArg List.length h; simpa [wU, w3] using this
  have e1 : ofC (j : Int) = (j : Int) := by unfold ofC; omega
  unfold putU
  rw [if_pos (by omega), e1]
  unfold wU w3 at *
  rw [List.map_append, h, List.range_succ, List.map_append]
  rfl
theorem works_got : gotD ⟨ofC 5, [true], 0, 0⟩ 6 true = (⟨6, [true, true], 1, 0⟩, true) := by rfl
theorem x0_ok : x0.w.Ok := by unfold Cwnd.Win.Ok x0; decide
theorem x0_fine : Fine 0 x0 := (good_new 0).fine
theorem x1_fine : Fine 0 x1 := ⟨by unfold Cwnd.Win.Ok; decide, by decide, by decide, by decide, by decide, by decide, by decide, by decide, by decide⟩
theorem sentX0 (l : List Un) : sentX l x0 0 = x0 := by
  rcases sentX_cases l x0 0 with e | e <;> rw [e]
  rfl
set_option maxRecDepth 100000 in
theorem works_law (w : World) : Calls Try.prog 20 #[] w (Ret w (.bool true)) := by
  go_enter Try.func20, Try.ntmps20
  go_wp2_with fail
  refine Calls.mono (new_any 5 _) ?_
  rintro e w1 ⟨b, rfl, H1⟩
  replace H1 := Lib.hid H1
  go_wp2_with fail
  go_loopg [2, 3] 4 (fun g nv i wr => ∃ (j : Nat) (l : List Un), j ≤ 4 ∧ Hid (g = 4 - j) ∧ i = .int .i64 j ∧ nv = .int .i64 ((min j 3 : Nat) : Int) ∧ Hid (wU l = w3 (min j 3)) ∧ Hid (St w none0 wr [ctlA b ⟨ofC 5, [true], 0, 0⟩ l x0]))
  case atStart => exact ⟨0, [], by omega, Lib.hid rfl, rfl, rfl, Lib.hid rfl, H1⟩
  case round =>
    clear H1
    obtain ⟨j, l, hj, hg, rfl, rfl, hu, HL⟩ := hrel
    have hlen : l.length = min j 3 := by have := congrArg List.length hu.out; simpa [wU, w3] using this
    by_cases hlt : j < 4
    · have q : decide ((j : Int) < 4) = true := decide_eq_true (by omega)
      have P := sent_st (j : Int) 0 x0_ok HL.out
      rw [sentX0] at P
      unfold sentL at P
      rw [show x0.w.s = 3 from rfl] at P
      by_cases h3 : j < 3
      · have hmin : min j 3 = j := by omega
        have hmin2 : min (j + 1) 3 = j + 1 := by omega
        rw [hmin] at hu hlen ⊢
        have hput := fun u => w3_put hu.out h3 u
        simp only [hlen, if_pos (show (j : Int) < 3 by omega), decide_eq_true (show (j : Int) < 3 by omega)] at P
        clear hu HL
        replace P := Lib.hid P; replace hput := Lib.hid hput; replace hlen := Lib.hid hlen; replace hmin := Lib.hid hmin; replace hmin2 := Lib.hid hmin2
        go_wp2_with fail
        refine Calls.mono P.out ?_
        rintro e w2 ⟨u, rfl, H2⟩
        have hu2 := hput.out u
        rw [← hmin2.out] at hu2
        clear P hput
        replace H2 := Lib.hid H2; replace hu2 := Lib.hid hu2
        go_wp2_with fail
        go_roundg (4 - (j + 1))
        case measure => have := hg.out; omega
        case rel => exact ⟨j + 1, _, by omega, Lib.hid rfl, by go_num, by rw [hmin2.out]; rfl, hu2, H2⟩
      · have hj3 : j = 3 := by omega
        subst hj3
        simp only [hlen, if_neg (show ¬ (((min 3 3 : Nat) : Int) < 3) by omega), decide_eq_false (show ¬ (((min 3 3 : Nat) : Int) < 3) by omega)] at P
        clear HL
        replace P := Lib.hid P; replace hlen := Lib.hid hlen
        go_wp2_with fail
        refine Calls.mono P.out ?_
        rintro e w2 ⟨u, rfl, H2⟩
        clear P
        replace H2 := Lib.hid H2
        go_wp2_with fail
        go_roundg 0
        case measure => have := hg.out; omega
        case rel => exact ⟨4, l, by omega, Lib.hid rfl, rfl, rfl, hu, H2⟩
    · obtain rfl : j = 4 := by omega
      have P1 := got_st 6 true (by simp) (by simp) HL.out
      rw [works_got] at P1
      simp only at P1
      obtain ⟨h1, h2, h3⟩ := w_took (l := l) hu.out
      clear hu hlen HL
      replace P1 := Lib.hid P1; replace h1 := Lib.hid h1; replace h2 := Lib.hid h2; replace h3 := Lib.hid h3
      go_wp2_with fail
      refine Calls.mono P1.out ?_
      rintro e w2 ⟨rfl, H2⟩
      have P2 := window_st x0_ok H2
      rw [show x0.w.s = 3 from rfl] at P2
      clear P1
      replace H2 := Lib.hid H2; replace P2 := Lib.hid P2
      go_wp2_with fail
      refine Calls.mono (P2.out) ?_
      rintro e w3 ⟨rfl, hb3⟩
      have z3 := Below.size hb3; try simp only [World.size_alloc, World.size_setCell, World.size_drew] at z3
      have H3 := H2.out.thru hb3
      have P3 := trip_st x0_fine H3
      rw [show tripX x0 = 8 from rfl] at P3
      clear H2 P2
      replace H3 := Lib.hid H3; replace P3 := Lib.hid P3
      go_wp2_with fail
      refine Calls.mono (P3.out) ?_
      rintro e w4 ⟨rfl, hb4⟩
      have z4 := Below.size hb4; try simp only [World.size_alloc, World.size_setCell, World.size_drew] at z4
      have H4 := H3.out.thru hb4
      have P4 := owes_st 1 H4
      rw [show wantsH ⟨6, [true, true], 1, 0⟩ 1 = true from rfl] at P4
      clear H3 P3
      replace H4 := Lib.hid H4; replace P4 := Lib.hid P4
      go_wp2_with fail
      refine Calls.mono (P4.out) ?_
      rintro e w5 ⟨rfl, hb5⟩
      have z5 := Below.size hb5; try simp only [World.size_alloc, World.size_setCell, World.size_drew] at z5
      have H5 := ((H4.out.thru hb5).alloc (runs wR) 89).arr [1, 0] rfl
      have P5 := took_st (C := 0) 2 3 4 wR 1 1 rfl (by omega) (some ⟨w5.heap.size, 0, none⟩) x0_fine (by omega) (by omega) (by rw [h2.out]; omega) h3.out (fun w' l' H => (H.box l'.length (by simp)).rd) H5
      rw [h1.out, w_x1 h2.out] at P5
      clear H4 P4
      replace H5 := Lib.hid H5; replace P5 := Lib.hid P5
      go_wp2_with fail
      refine Calls.mono P5.out ?_
      rintro e w6 ⟨rfl, H6⟩
      have P6 := pipe_st H6
      rw [show (leftU (Flight.Acc.mk [] 3 0 4).ahead).length = 0 from rfl] at P6
      clear H5 P5
      replace H6 := Lib.hid H6; replace P6 := Lib.hid P6
      go_wp2_with fail
      refine Calls.mono (P6.out) ?_
      rintro e w7 ⟨rfl, hb7⟩
      have z7 := Below.size hb7; try simp only [World.size_alloc, World.size_setCell, World.size_drew] at z7
      have H7 := H6.out.thru hb7
      have P7 := window_st x1_fine.win H7
      rw [show x1.w.s = 6 from rfl] at P7
      clear H6 P6
      replace H7 := Lib.hid H7; replace P7 := Lib.hid P7
      go_wp2_with fail
      refine Calls.mono (P7.out) ?_
      rintro e w8 ⟨rfl, hb8⟩
      have z8 := Below.size hb8; try simp only [World.size_alloc, World.size_setCell, World.size_drew] at z8
      have H8 := Lib.hid (H7.out.thru hb8)
      go_wp2_with fail
      go_ret
      exact Ret.mk rfl H8.out.below
end Go.Proofs.Ytpajedpkdfacoaa.Ccid
