/- The walk of the statement FlightOnce: of all packets that were sent as many came, were lost and dropped, as are under way no more. -/
import Derived.Test.YtljgmephajocaaaFlightWorks
import Derived.Deep.CutBlock
import Derived.Deep.DeepCutAuto
namespace Go.Proofs.Ytljgmephajocaaa.Flight
set_option linter.unusedSimpArgs false
set_option linter.unusedVariables false
open Go Go.RowKit Go.Shelf Go.Proofs.Ytljgmephajocaaa Go.Proofs.Ytljgmephajocaaa.DockSPtr Go.Proofs.Ytljgmephajocaaa.Circ Go.Proofs.Ytljgmephajocaaa.Avec
attribute [local irreducible] Calls

/-- What holds ahead of the step j: pn were put, dn are done with. -/
structure Good (l : List Un) (pn dn : Int) (j : Nat) : Prop where
  eq : pn = dn + l.length
  d0 : 0 ≤ dn
  pj : pn ≤ j
  few : l.length ≤ 64
  ok : ∀ u ∈ l, OkU u
theorem good_0 : Good [] 0 0 0 := ⟨rfl, by omega, by omega, by simp, fun u h => by cases h⟩
theorem Good.more {l : List Un} {pn dn : Int} {j : Nat} (h : Good l pn dn j) : Good l pn dn (j + 1) := ⟨h.eq, h.d0, by have := h.pj; omega, h.few, h.ok⟩
theorem Good.put {l : List Un} {pn dn : Int} {j : Nat} (h : Good l pn dn j) (b : Nat) (seq now : Int) : (putOk l = true ∧ Good (putU l b seq now) (pn + 1) dn (j + 1)) ∨ (putOk l = false ∧ Good (putU l b seq now) pn dn (j + 1)) := by
  by_cases hl : l.length < 64
  · refine .inl ⟨decide_eq_true (by omega), ?_⟩
    unfold putU
    rw [if_pos hl]
    refine ⟨?_, h.d0, by have := h.pj; omega, by simp; omega, ?_⟩
    · have := h.eq; simp; omega
    · intro u hu
      rcases List.mem_append.1 hu with hu | hu
      · exact h.ok u hu
      · obtain rfl := List.mem_singleton.1 hu
        unfold OkU timeV
        simp only
        omega
  · refine .inr ⟨decide_eq_false (by omega), ?_⟩
    unfold putU
    rw [if_neg hl]
    exact h.more
theorem lost_left (l : List Un) : (lostU l).length + (leftU l).length = l.length := by
  unfold lostU leftU
  induction l with
  | nil => rfl
  | cons u l ih => cases h : decide (3 ≤ u.later) <;> simp [h] <;> omega
theorem Good.took {l : List Un} {pn dn : Int} {j : Nat} (h : Good l pn dn j) (st : Int → Int) (t : Int) : Good (leftU (hearA st t l).ahead) pn (dn + (hearA st t l).ack + (lostU (hearA st t l).ahead).length) (j + 1) := by
  have hi := hear_inv (st := st) (t := t) l h.ok
  have h1 := hi.all
  have h2 := lost_left (hearA st t l).ahead
  have h3 := h.few
  have h4 := hi.ack
  refine ⟨?_, ?_, ?_, ?_, ?_⟩
  · have := h.eq; omega
  · have := h.d0; omega
  · have := h.pj; omega
  · omega
  · intro u hu
    obtain ⟨h5, h6⟩ := List.mem_filter.1 hu
    have h7 := hi.un u h5
    simp at h6
    unfold OkU
    omega
theorem Good.drop {l : List Un} {pn dn : Int} {j : Nat} (h : Good l pn dn j) : Good [] pn (dn + l.length) (j + 1) := ⟨by have := h.eq; simp; omega, by have := h.d0; omega, by have := h.pj; omega, by simp, fun u hu => by cases hu⟩

set_option maxRecDepth 100000 in
set_option maxHeartbeats 1000000 in
theorem walk (a0 : Option Addr) (len0 cap0 : Nat) (w : World) (h0 : Fits w (.slice 4 (.cons 1 (.int .i64) (.cons 1 (.int .i64) (.cons 1 (.int .i64) (.cons 1 (.slice 2 (.cons 1 (.int .i64) (.cons 1 (.int .i64) .nil))) .nil))))) [.slice a0 len0 cap0]) :
    Calls Try.prog 5 #[.slice a0 len0 cap0] w (Ret w (.bool true)) := by
  obtain ⟨hmax, L, hL, hrun, hR⟩ := fos_in h0
  unfold maxLen at hmax
  clear h0
  replace hL := Lib.hid hL; replace hrun := Lib.hid hrun; replace hR := Lib.hid hR
  go_enter Try.func5, Try.ntmps5
  go_wp2_with fail
  refine Calls.mono (works_law _) ?_
  rintro e w1 ⟨rfl, hb1⟩
  have z1 := Below.size hb1; try simp only [World.size_alloc, World.size_setCell, World.size_drew] at z1
  have hR1 := hR.out.below hb1
  replace hR1 := Lib.hid hR1
  go_wp2_with fail
  refine Calls.mono (great_any L len0 hL.out (by unfold maxLen; omega) hrun.out a0 cap0 w1 hR1.out) ?_
  rintro e w2 ⟨rfl, hb2⟩
  have z2 := Below.size hb2; try simp only [World.size_alloc, World.size_setCell, World.size_drew] at z2
  by_cases hbig : bigO L = true
  · rw [hbig]
    go_wp2_with fail
    go_ret
    exact Ret.mk rfl (by repeat (first | with_reducible exact Below.refl _ _ | (with_reducible refine Below.al ?_) | (with_reducible refine Below.drew ?_) | (with_reducible refine Below.set ?_ (by first | (simp; done) | omega | (simp; omega))) | (with_reducible refine Below.thru ?_ (by assumption)) | (with_reducible refine Below.chg ?_ (by assumption) (by first | (simp; done) | omega | (simp; omega)))))
  · have hbf : bigO L = false := by simpa using hbig
    obtain ⟨hn, hr10⟩ := bigO_no hbf
    rw [hbf]
    clear hbig hbf hrun
    replace hr10 := Lib.hid hr10
    rw [hL.out] at hn
    go_wp2_with fail
    refine Calls.mono (new_any _) ?_
    rintro e w3 ⟨f, rfl, H1⟩
    have H2 : St w none0 w3 [flightA f []] := (St.zero w).thru (Below.thru hb1 hb2) |>.add H1
    clear H1
    replace H2 := Lib.hid H2
    clear hR1 hb1 hb2
    go_wp2_with fail
    go_loopg [4, 5, 6] len0 (fun g p d i wr => ∃ (j : Nat) (l : List Un) (pn dn : Int), j ≤ len0 ∧ Hid (g = len0 - j) ∧ p = .int .i64 pn ∧ d = .int .i64 dn ∧ i = .int .i64 j ∧ Hid (Good l pn dn j) ∧ Hid (St w none0 wr [flightA f l]))
    case atStart => exact ⟨0, [], 0, 0, by omega, Lib.hid rfl, rfl, rfl, rfl, Lib.hid good_0, H2⟩
    case round =>
      clear H2
      obtain ⟨j, l, pn, dn, hj, hg, rfl, rfl, rfl, hG, HL⟩ := hrel
      by_cases hlt : j < len0
      · have hjl : j < L.length := by have := hL.out; omega
        obtain ⟨b, off, rfl, hb, e0, e1, e2, e3⟩ := fos_at (hR.out.below (St.below HL.out)) hjl
        have hruns : (L[j]).runs_.length ≤ 10 := hr10.out _ (List.getElem_mem hjl)
        have hrd : ∀ w', Below w.heap.size w w' → Rd w' (L[j]).a (runs (L[j]).runs_) := fun w' hb' => (hR.out.below hb').2 _ (List.getElem_mem hjl)
        generalize L[j] = x at *
        obtain ⟨kind, seq, now, R, ra, rc⟩ := x
        simp only at e0 e1 e2 e3 hruns hrd
        obtain ⟨n, hn'⟩ : ∃ n, n = R.length := ⟨_, rfl⟩
        rw [← hn'] at e3 hruns
        replace hn' := Lib.hid hn'
        replace hrd := Lib.hid hrd
        have H3 := (HL.out.alloc [.int .i64 kind, .int .i64 seq, .int .i64 now, .slice ra n rc] 57).arr [1, 0] rfl
        clear HL
        by_cases hk : kind = 0 ∨ kind = 1
        · obtain ⟨S4, h4, _, c4⟩ := H3.at 0 rfl
          have P4 := put_any f l seq now (by have := hG.out.few; omega) _ S4 h4
          clear h4 H3
          rcases hk with rfl | rfl
          · replace P4 := Lib.hid P4; replace c4 := Lib.hid c4
            go_wp2_with fail
            refine Calls.mono P4.out ?_
            rintro e w4 ⟨bu, rfl, h4⟩
            have HT := c4.out _ _ h4
            rcases hG.out.put bu seq now with ⟨hok, hG'⟩ | ⟨hok, hG'⟩
            · rw [hok]
              clear hG
              obtain ⟨l', hl'⟩ : ∃ l', l' = putU l bu seq now := ⟨_, rfl⟩
              rw [← hl'] at hG' HT
              clear P4 c4 h4 hl' hok
              have hG := Lib.hid hG'
              replace HT := Lib.hid HT
              clear hG'
              have hsub : (pn + 1) - dn = ((l').length : Int) := by have := hG.out.eq; omega
              have q64 : decide ((64 : Int) < ((l').length : Int)) = false := decide_eq_false (by have := hG.out.few; omega)
              have hd0 : 0 ≤ dn ∧ dn ≤ 1000 := by have := hG.out.eq; have := hG.out.d0; have := hG.out.pj; omega
              have hp0 : 0 ≤ (pn + 1) ∧ (pn + 1) ≤ 1000 := by have := hG.out.eq; have := hG.out.d0; have := hG.out.pj; omega
              obtain ⟨hd0, hd1⟩ := hd0
              obtain ⟨hp0, hp1⟩ := hp0
              obtain ⟨S5, h5, _, _⟩ := HT.out.at 0 rfl
              have P5 := pipe_any f (l') _ S5 h5
              clear h5
              replace P5 := Lib.hid P5
              go_wp2_with fail
              refine Calls.mono P5.out ?_
              rintro e w5 ⟨rfl, hb5⟩
              have HU : St w none0 w5 [flightA f (l')] := (HT.out.drops 1).thru hb5
              obtain ⟨S6, h6, _, _⟩ := HU.at 0 rfl
              have P6 := pipe_any f (l') _ S6 h6
              clear h6 P5 HT
              replace P6 := Lib.hid P6
              replace HU := Lib.hid HU
              go_wp2_with fail
              refine Calls.mono P6.out ?_
              rintro e w6 ⟨rfl, hb6⟩
              have HV : St w none0 w6 [flightA f (l')] := HU.out.thru hb6
              clear P6 HU
              replace HV := Lib.hid HV
              go_wp2_with fail
              go_roundg (len0 - (j + 1))
              case measure => have := hg.out; omega
              case rel => exact ⟨j + 1, l', (pn + 1), dn, by omega, Lib.hid rfl, rfl, rfl, by go_num, hG, HV⟩
            · rw [hok]
              clear hG
              obtain ⟨l', hl'⟩ : ∃ l', l' = putU l bu seq now := ⟨_, rfl⟩
              rw [← hl'] at hG' HT
              clear P4 c4 h4 hl' hok
              have hG := Lib.hid hG'
              replace HT := Lib.hid HT
              clear hG'
              have hsub : pn - dn = ((l').length : Int) := by have := hG.out.eq; omega
              have q64 : decide ((64 : Int) < ((l').length : Int)) = false := decide_eq_false (by have := hG.out.few; omega)
              have hd0 : 0 ≤ dn ∧ dn ≤ 1000 := by have := hG.out.eq; have := hG.out.d0; have := hG.out.pj; omega
              have hp0 : 0 ≤ pn ∧ pn ≤ 1000 := by have := hG.out.eq; have := hG.out.d0; have := hG.out.pj; omega
              obtain ⟨hd0, hd1⟩ := hd0
              obtain ⟨hp0, hp1⟩ := hp0
              obtain ⟨S5, h5, _, _⟩ := HT.out.at 0 rfl
              have P5 := pipe_any f (l') _ S5 h5
              clear h5
              replace P5 := Lib.hid P5
              go_wp2_with fail
              refine Calls.mono P5.out ?_
              rintro e w5 ⟨rfl, hb5⟩
              have HU : St w none0 w5 [flightA f (l')] := (HT.out.drops 1).thru hb5
              obtain ⟨S6, h6, _, _⟩ := HU.at 0 rfl
              have P6 := pipe_any f (l') _ S6 h6
              clear h6 P5 HT
              replace P6 := Lib.hid P6
              replace HU := Lib.hid HU
              go_wp2_with fail
              refine Calls.mono P6.out ?_
              rintro e w6 ⟨rfl, hb6⟩
              have HV : St w none0 w6 [flightA f (l')] := HU.out.thru hb6
              clear P6 HU
              replace HV := Lib.hid HV
              go_wp2_with fail
              go_roundg (len0 - (j + 1))
              case measure => have := hg.out; omega
              case rel => exact ⟨j + 1, l', pn, dn, by omega, Lib.hid rfl, rfl, rfl, by go_num, hG, HV⟩
          · replace P4 := Lib.hid P4; replace c4 := Lib.hid c4
            go_wp2_with fail
            refine Calls.mono P4.out ?_
            rintro e w4 ⟨bu, rfl, h4⟩
            have HT := c4.out _ _ h4
            rcases hG.out.put bu seq now with ⟨hok, hG'⟩ | ⟨hok, hG'⟩
            · rw [hok]
              clear hG
              obtain ⟨l', hl'⟩ : ∃ l', l' = putU l bu seq now := ⟨_, rfl⟩
              rw [← hl'] at hG' HT
              clear P4 c4 h4 hl' hok
              have hG := Lib.hid hG'
              replace HT := Lib.hid HT
              clear hG'
              have hsub : (pn + 1) - dn = ((l').length : Int) := by have := hG.out.eq; omega
              have q64 : decide ((64 : Int) < ((l').length : Int)) = false := decide_eq_false (by have := hG.out.few; omega)
              have hd0 : 0 ≤ dn ∧ dn ≤ 1000 := by have := hG.out.eq; have := hG.out.d0; have := hG.out.pj; omega
              have hp0 : 0 ≤ (pn + 1) ∧ (pn + 1) ≤ 1000 := by have := hG.out.eq; have := hG.out.d0; have := hG.out.pj; omega
              obtain ⟨hd0, hd1⟩ := hd0
              obtain ⟨hp0, hp1⟩ := hp0
              obtain ⟨S5, h5, _, _⟩ := HT.out.at 0 rfl
              have P5 := pipe_any f (l') _ S5 h5
              clear h5
              replace P5 := Lib.hid P5
              go_wp2_with fail
              refine Calls.mono P5.out ?_
              rintro e w5 ⟨rfl, hb5⟩
              have HU : St w none0 w5 [flightA f (l')] := (HT.out.drops 1).thru hb5
              obtain ⟨S6, h6, _, _⟩ := HU.at 0 rfl
              have P6 := pipe_any f (l') _ S6 h6
              clear h6 P5 HT
              replace P6 := Lib.hid P6
              replace HU := Lib.hid HU
              go_wp2_with fail
              refine Calls.mono P6.out ?_
              rintro e w6 ⟨rfl, hb6⟩
              have HV : St w none0 w6 [flightA f (l')] := HU.out.thru hb6
              clear P6 HU
              replace HV := Lib.hid HV
              go_wp2_with fail
              go_roundg (len0 - (j + 1))
              case measure => have := hg.out; omega
              case rel => exact ⟨j + 1, l', (pn + 1), dn, by omega, Lib.hid rfl, rfl, rfl, by go_num, hG, HV⟩
            · rw [hok]
              clear hG
              obtain ⟨l', hl'⟩ : ∃ l', l' = putU l bu seq now := ⟨_, rfl⟩
              rw [← hl'] at hG' HT
              clear P4 c4 h4 hl' hok
              have hG := Lib.hid hG'
              replace HT := Lib.hid HT
              clear hG'
              have hsub : pn - dn = ((l').length : Int) := by have := hG.out.eq; omega
              have q64 : decide ((64 : Int) < ((l').length : Int)) = false := decide_eq_false (by have := hG.out.few; omega)
              have hd0 : 0 ≤ dn ∧ dn ≤ 1000 := by have := hG.out.eq; have := hG.out.d0; have := hG.out.pj; omega
              have hp0 : 0 ≤ pn ∧ pn ≤ 1000 := by have := hG.out.eq; have := hG.out.d0; have := hG.out.pj; omega
              obtain ⟨hd0, hd1⟩ := hd0
              obtain ⟨hp0, hp1⟩ := hp0
              obtain ⟨S5, h5, _, _⟩ := HT.out.at 0 rfl
              have P5 := pipe_any f (l') _ S5 h5
              clear h5
              replace P5 := Lib.hid P5
              go_wp2_with fail
              refine Calls.mono P5.out ?_
              rintro e w5 ⟨rfl, hb5⟩
              have HU : St w none0 w5 [flightA f (l')] := (HT.out.drops 1).thru hb5
              obtain ⟨S6, h6, _, _⟩ := HU.at 0 rfl
              have P6 := pipe_any f (l') _ S6 h6
              clear h6 P5 HT
              replace P6 := Lib.hid P6
              replace HU := Lib.hid HU
              go_wp2_with fail
              refine Calls.mono P6.out ?_
              rintro e w6 ⟨rfl, hb6⟩
              have HV : St w none0 w6 [flightA f (l')] := HU.out.thru hb6
              clear P6 HU
              replace HV := Lib.hid HV
              go_wp2_with fail
              go_roundg (len0 - (j + 1))
              case measure => have := hg.out; omega
              case rel => exact ⟨j + 1, l', pn, dn, by omega, Lib.hid rfl, rfl, rfl, by go_num, hG, HV⟩
        · have k0 : (kind == 0) = false := by simp; omega
          have k1 : (kind == 1) = false := by simp; omega
          have k0' : ¬ kind = 0 := by omega
          have k1' : ¬ kind = 1 := by omega
          clear hk
          by_cases hk2 : kind = 2
          · subst hk2
            obtain ⟨S4, h4, hS4, c4⟩ := H3.at 0 rfl
            have P4 := took_any f l (by have := hG.out.few; omega) hG.out.ok seq now R n rc hn'.out.symm (by omega) ra _ S4 (fun w' ho => hrd.out w' (Only.below (H3.only.trans ho fun b hb => hS4 b hb))) h4
            obtain ⟨A, hA⟩ : ∃ A, A = hearA (fun s => findV (eachL seq R) (ofC s)) (timeV now) l := ⟨_, rfl⟩
            have hG' := hG.out.took (fun s => findV (eachL seq R) (ofC s)) (timeV now)
            have hi := hear_inv (st := fun s => findV (eachL seq R) (ofC s)) (t := timeV now) l hG.out.ok
            rw [← hA] at P4 hG' hi
            have hlen := hG.out.few
            unfold newsV newsL at P4
            have hlost : (lostU A.ahead).length ≤ A.ahead.length := List.length_filter_le ..
            have hdn : 0 ≤ dn ∧ dn ≤ 1000 := by have := hG.out.eq; have := hG.out.d0; have := hG.out.pj; omega
            generalize newestU (lostU A.ahead) = nw at P4
            generalize (lostU A.ahead).length = lo at *
            clear hA h4 hG H3
            obtain ⟨A1, A2, A3, A4⟩ := A
            obtain ⟨i1, i2, i3, i4, i5, i6, _⟩ := hi
            simp only at P4 hG' i1 i2 i3 i4 i5 i6 hlost
            obtain ⟨hdn0, hdn1⟩ := hdn
            have g1 : decide (A2 < A3) = false := decide_eq_false (by omega)
            have i7 : A2 ≤ 64 := by omega
            have i8 : lo ≤ 64 := by omega
            have hG := Lib.hid hG'
            obtain ⟨l', hl'⟩ : ∃ l', l' = leftU A1 := ⟨_, rfl⟩
            rw [← hl'] at hG P4
            clear i1 hlost hlen hG' hl'
            by_cases hA2 : 0 < A2
            · have g2 : decide (0 < A2) = true := decide_eq_true hA2
              have g3 : decide (0 < A4) = true := decide_eq_true (i5.2 hA2)
              clear i5 hA2
              replace P4 := Lib.hid P4; replace c4 := Lib.hid c4
              go_wp2_with fail
              refine Calls.mono P4.out ?_
              rintro e w4 ⟨rfl, h4⟩
              have HT := (c4.out _ _ h4).alloc [.int .i64 A2, .int .i64 lo, .int .i64 A3, .int .i64 A4, .int .i64 nw] 60 |>.arrN [1, 0] rfl
              clear P4 c4 h4
              replace HT := Lib.hid HT
              have hsub : pn - (dn + A2 + (lo : Int)) = ((l').length : Int) := by have := hG.out.eq; omega
              have q64 : decide ((64 : Int) < ((l').length : Int)) = false := decide_eq_false (by have := hG.out.few; omega)
              have hd0 : 0 ≤ (dn + A2 + (lo : Int)) ∧ (dn + A2 + (lo : Int)) ≤ 1000 := by have := hG.out.eq; have := hG.out.d0; have := hG.out.pj; omega
              have hp0 : 0 ≤ pn ∧ pn ≤ 1000 := by have := hG.out.eq; have := hG.out.d0; have := hG.out.pj; omega
              obtain ⟨hd0, hd1⟩ := hd0
              obtain ⟨hp0, hp1⟩ := hp0
              obtain ⟨S5, h5, _, _⟩ := HT.out.at 0 rfl
              have P5 := pipe_any f (l') _ S5 h5
              clear h5
              replace P5 := Lib.hid P5
              go_wp2_with fail
              refine Calls.mono P5.out ?_
              rintro e w5 ⟨rfl, hb5⟩
              have HU : St w none0 w5 [flightA f (l')] := (HT.out.drops 1).thru hb5
              obtain ⟨S6, h6, _, _⟩ := HU.at 0 rfl
              have P6 := pipe_any f (l') _ S6 h6
              clear h6 P5 HT
              replace P6 := Lib.hid P6
              replace HU := Lib.hid HU
              go_wp2_with fail
              refine Calls.mono P6.out ?_
              rintro e w6 ⟨rfl, hb6⟩
              have HV : St w none0 w6 [flightA f (l')] := HU.out.thru hb6
              clear P6 HU
              replace HV := Lib.hid HV
              go_wp2_with fail
              go_roundg (len0 - (j + 1))
              case measure => have := hg.out; omega
              case rel => exact ⟨j + 1, l', pn, (dn + A2 + (lo : Int)), by omega, Lib.hid rfl, rfl, rfl, by go_num, hG, HV⟩
            · have g2 : decide (0 < A2) = false := decide_eq_false hA2
              have g3 : decide (0 < A4) = false := decide_eq_false (fun h => hA2 (i5.1 h))
              clear i5 hA2
              replace P4 := Lib.hid P4; replace c4 := Lib.hid c4
              go_wp2_with fail
              refine Calls.mono P4.out ?_
              rintro e w4 ⟨rfl, h4⟩
              have HT := (c4.out _ _ h4).alloc [.int .i64 A2, .int .i64 lo, .int .i64 A3, .int .i64 A4, .int .i64 nw] 60 |>.arrN [1, 0] rfl
              clear P4 c4 h4
              replace HT := Lib.hid HT
              have hsub : pn - (dn + A2 + (lo : Int)) = ((l').length : Int) := by have := hG.out.eq; omega
              have q64 : decide ((64 : Int) < ((l').length : Int)) = false := decide_eq_false (by have := hG.out.few; omega)
              have hd0 : 0 ≤ (dn + A2 + (lo : Int)) ∧ (dn + A2 + (lo : Int)) ≤ 1000 := by have := hG.out.eq; have := hG.out.d0; have := hG.out.pj; omega
              have hp0 : 0 ≤ pn ∧ pn ≤ 1000 := by have := hG.out.eq; have := hG.out.d0; have := hG.out.pj; omega
              obtain ⟨hd0, hd1⟩ := hd0
              obtain ⟨hp0, hp1⟩ := hp0
              obtain ⟨S5, h5, _, _⟩ := HT.out.at 0 rfl
              have P5 := pipe_any f (l') _ S5 h5
              clear h5
              replace P5 := Lib.hid P5
              go_wp2_with fail
              refine Calls.mono P5.out ?_
              rintro e w5 ⟨rfl, hb5⟩
              have HU : St w none0 w5 [flightA f (l')] := (HT.out.drops 1).thru hb5
              obtain ⟨S6, h6, _, _⟩ := HU.at 0 rfl
              have P6 := pipe_any f (l') _ S6 h6
              clear h6 P5 HT
              replace P6 := Lib.hid P6
              replace HU := Lib.hid HU
              go_wp2_with fail
              refine Calls.mono P6.out ?_
              rintro e w6 ⟨rfl, hb6⟩
              have HV : St w none0 w6 [flightA f (l')] := HU.out.thru hb6
              clear P6 HU
              replace HV := Lib.hid HV
              go_wp2_with fail
              go_roundg (len0 - (j + 1))
              case measure => have := hg.out; omega
              case rel => exact ⟨j + 1, l', pn, (dn + A2 + (lo : Int)), by omega, Lib.hid rfl, rfl, rfl, by go_num, hG, HV⟩
          · have k2 : (kind == 2) = false := by simp; omega
            by_cases hk3 : kind = 3
            · subst hk3
              obtain ⟨S4, h4, _, c4⟩ := H3.at 0 rfl
              have P4 := drop_any f l (by have := hG.out.few; omega) _ S4 h4
              have hG' := hG.out.drop
              have hd0 : 0 ≤ dn ∧ dn ≤ 1000 := by have := hG.out.eq; have := hG.out.d0; have := hG.out.pj; omega
              have hlen := hG.out.few
              obtain ⟨hd0, hd1⟩ := hd0
              clear h4 hG H3
              have hG := Lib.hid hG'
              replace P4 := Lib.hid P4; replace c4 := Lib.hid c4
              clear hG'
              go_wp2_with fail
              refine Calls.mono P4.out ?_
              rintro e w4 ⟨rfl, h4⟩
              have HT := c4.out _ _ h4
              clear P4 c4 h4
              replace HT := Lib.hid HT
              clear hd0 hd1
              have hsub : pn - (dn + (l.length : Int)) = ((([] : List Un)).length : Int) := by have := hG.out.eq; omega
              have q64 : decide ((64 : Int) < ((([] : List Un)).length : Int)) = false := decide_eq_false (by have := hG.out.few; omega)
              have hd0 : 0 ≤ (dn + (l.length : Int)) ∧ (dn + (l.length : Int)) ≤ 1000 := by have := hG.out.eq; have := hG.out.d0; have := hG.out.pj; omega
              have hp0 : 0 ≤ pn ∧ pn ≤ 1000 := by have := hG.out.eq; have := hG.out.d0; have := hG.out.pj; omega
              obtain ⟨hd0, hd1⟩ := hd0
              obtain ⟨hp0, hp1⟩ := hp0
              obtain ⟨S5, h5, _, _⟩ := HT.out.at 0 rfl
              have P5 := pipe_any f (([] : List Un)) _ S5 h5
              clear h5
              replace P5 := Lib.hid P5
              go_wp2_with fail
              refine Calls.mono P5.out ?_
              rintro e w5 ⟨rfl, hb5⟩
              have HU : St w none0 w5 [flightA f (([] : List Un))] := (HT.out.drops 1).thru hb5
              obtain ⟨S6, h6, _, _⟩ := HU.at 0 rfl
              have P6 := pipe_any f (([] : List Un)) _ S6 h6
              clear h6 P5 HT
              replace P6 := Lib.hid P6
              replace HU := Lib.hid HU
              go_wp2_with fail
              refine Calls.mono P6.out ?_
              rintro e w6 ⟨rfl, hb6⟩
              have HV : St w none0 w6 [flightA f (([] : List Un))] := HU.out.thru hb6
              clear P6 HU
              replace HV := Lib.hid HV
              go_wp2_with fail
              go_roundg (len0 - (j + 1))
              case measure => have := hg.out; omega
              case rel => exact ⟨j + 1, ([] : List Un), pn, (dn + (l.length : Int)), by omega, Lib.hid rfl, rfl, rfl, by go_num, hG, HV⟩
            · have k3 : (kind == 3) = false := by simp; omega
              have HT := Lib.hid H3
              have hG' := Lib.hid hG.out.more
              clear hG H3
              have hG := hG'
              clear hG'
              have hsub : pn - dn = ((l).length : Int) := by have := hG.out.eq; omega
              have q64 : decide ((64 : Int) < ((l).length : Int)) = false := decide_eq_false (by have := hG.out.few; omega)
              have hd0 : 0 ≤ dn ∧ dn ≤ 1000 := by have := hG.out.eq; have := hG.out.d0; have := hG.out.pj; omega
              have hp0 : 0 ≤ pn ∧ pn ≤ 1000 := by have := hG.out.eq; have := hG.out.d0; have := hG.out.pj; omega
              obtain ⟨hd0, hd1⟩ := hd0
              obtain ⟨hp0, hp1⟩ := hp0
              obtain ⟨S5, h5, _, _⟩ := HT.out.at 0 rfl
              have P5 := pipe_any f (l) _ S5 h5
              clear h5
              replace P5 := Lib.hid P5
              go_wp2_with fail
              refine Calls.mono P5.out ?_
              rintro e w5 ⟨rfl, hb5⟩
              have HU : St w none0 w5 [flightA f (l)] := (HT.out.drops 1).thru hb5
              obtain ⟨S6, h6, _, _⟩ := HU.at 0 rfl
              have P6 := pipe_any f (l) _ S6 h6
              clear h6 P5 HT
              replace P6 := Lib.hid P6
              replace HU := Lib.hid HU
              go_wp2_with fail
              refine Calls.mono P6.out ?_
              rintro e w6 ⟨rfl, hb6⟩
              have HV : St w none0 w6 [flightA f (l)] := HU.out.thru hb6
              clear P6 HU
              replace HV := Lib.hid HV
              go_wp2_with fail
              go_roundg (len0 - (j + 1))
              case measure => have := hg.out; omega
              case rel => exact ⟨j + 1, l, pn, dn, by omega, Lib.hid rfl, rfl, rfl, by go_num, hG, HV⟩
      · obtain rfl : j = len0 := by omega
        clear hG hg
        go_wp2_with fail
        go_ret
        exact Ret.mk rfl (St.below HL.out)
end Go.Proofs.Ytljgmephajocaaa.Flight
