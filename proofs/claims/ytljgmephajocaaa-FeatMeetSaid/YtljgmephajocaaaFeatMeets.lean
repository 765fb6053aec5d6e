/- The walk of the statement FeatMeet. -/
import Derived.Test.YtljgmephajocaaaFeatMeet
namespace Go.Proofs.Ytljgmephajocaaa.Feat
set_option linter.unusedSimpArgs false
set_option linter.unusedVariables false
open Go Go.RowKit Go.Shelf Go.Proofs.Ytljgmephajocaaa
open Go.Proofs.Ytljgmephajocaaa.Opts (El encs Few)
attribute [local irreducible] Calls

def valS (x : Fe) : Value := .slice x.a x.likes.length x.cap
theorem last_rd {l : List Fe} {w : World} {a : Option Addr} (h : RdF w a l) (k : Int) : Rd w (lastV l k).a (i64s (lastV l k).likes) := by
  unfold lastV
  cases hf : l.reverse.find? (isN k) with
  | none => exact Rd.nil _ _
  | some x => exact h.2 x (by have := List.mem_of_find?_eq_some hf; simpa using this)
theorem last_len {l : List Fe} (h : ∀ x ∈ l, x.likes.length ≤ 60) (k : Int) : (lastV l k).likes.length ≤ 60 := by
  unfold lastV
  cases hf : l.reverse.find? (isN k) with
  | none => simp [zeroF]
  | some x => exact h x (by have := List.mem_of_find?_eq_some hf; simpa using this)
theorem find_len {l : List Fe} (h : ∀ x ∈ l, x.likes.length ≤ 60) (k : Int) : (findV l k).likes.length ≤ 60 := by
  unfold findV
  cases hf : l.find? (isN k) with
  | none => simp [zeroF]
  | some x => exact h x (List.mem_of_find?_eq_some hf)
set_option maxRecDepth 100000 in
set_option maxHeartbeats 4000000 in
theorem meet_walk (a : Option Addr) (n ca : Nat) (b : Option Addr) (m cb : Nat) (k : Int) (w2 : (Lit.int .i64 k).wf = true) (w : World) (h0 : Fits w (.slice 2 (.cons 1 (.int .i64) (.cons 1 (.slice 1 (.int .i64)) .nil))) [.slice a n ca]) (h1 : Fits w (.slice 2 (.cons 1 (.int .i64) (.cons 1 (.slice 1 (.int .i64)) .nil))) [.slice b m cb]) :
    Calls Try.prog 12 #[.slice a n ca, .slice b m cb, .int .i64 k] w (Ret w (.bool true)) := by
  obtain ⟨hn, hca, l, hl, hgl, hL⟩ := fes_in h0
  obtain ⟨hm, hcb, own, ho, hgo, hO⟩ := fes_in h1
  clear h0 h1 w2
  have PG1 := fun W hW => great_any l n hl hn hgl a ca W (hL.below hW)
  have PG2 := fun W hW => great_any own m ho hm hgo b cb W (hO.below hW)
  unfold maxLen at hn hm
  replace hl := Lib.hid hl; replace hL := Lib.hid hL; replace ho := Lib.hid ho; replace hO := Lib.hid hO; replace PG1 := Lib.hid PG1; replace PG2 := Lib.hid PG2; replace hgl := Lib.hid hgl; replace hgo := Lib.hid hgo
  go_enter Try.func12, Try.ntmps12
  go_wp2_with fail
  refine Calls.mono (works_law _) ?_
  rintro e w1 ⟨rfl, hb1⟩
  have P1 := PG1.out w1 hb1
  clear PG1
  cases hb : bigF l with
  | true =>
    rw [hb] at P1
    go_wp2_with fail
    refine Calls.mono P1 ?_
    rintro e w2 ⟨rfl, hb2⟩
    have hbw2 := hb1.trans (hb2.mono hb1.size)
    clear P1
    go_wp2_with fail
    go_ret
    exact Ret.mk rfl hbw2
  | false =>
    rw [hb] at P1
    obtain ⟨hl30, hl60⟩ := bigF_no hb
    clear hb
    go_wp2_with fail
    refine Calls.mono P1 ?_
    rintro e w2 ⟨rfl, hb2⟩
    have hbw2 := hb1.trans (hb2.mono hb1.size)
    have P2 := PG2.out w2 hbw2
    clear P1 PG2 hb1 hb2
    cases hb : bigF own with
    | true =>
      rw [hb] at P2
      go_wp2_with fail
      refine Calls.mono P2 ?_
      rintro e w3 ⟨rfl, hb3⟩
      have hbw3 := hbw2.trans (hb3.mono hbw2.size)
      clear P2
      go_wp2_with fail
      go_ret
      exact Ret.mk rfl hbw3
    | false =>
      rw [hb] at P2
      obtain ⟨ho30, ho60⟩ := bigF_no hb
      clear hb
      go_wp2_with fail
      refine Calls.mono P2 ?_
      rintro e w3 ⟨rfl, hb3⟩
      have hbw3 := hbw2.trans (hb3.mono hbw2.size)
      clear P2 hbw2 hb3
      have P3 := ask_any l n ca a hl.out ⟨by omega, fun x hx => by have := hl60 x hx; omega⟩ w3 (hL.out.below hbw3) hca
      unfold AnsS at P3
      have hAf := askV_few hl30 hl60
      have hlike := both_like (l := l) (own := own) (k := k)
      obtain ⟨A, hA⟩ : ∃ A, askV l = A := ⟨_, rfl⟩
      rw [hA] at P3 hAf hlike
      clear hA
      obtain ⟨A, ae⟩ := A
      simp only at P3 hAf hlike
      have P4 := fun W x y h1 h2 => answer_any own m cb b ho.out ⟨by omega, fun x hx => by have := ho60 x hx; omega⟩ A A.length x y rfl hAf W h1 h2
      have hCf := ansV_few (own := own) (A := A) ho60 hAf.1
      unfold AnsS at P4
      obtain ⟨C, hC⟩ : ∃ C, ansV own A = C := ⟨_, rfl⟩
      rw [hC] at P4 hCf hlike
      clear hC
      obtain ⟨C, ce⟩ := C
      simp only at P4 hCf hlike
      have hfl := find_len ho60 k
      have hll := last_len hl60 k
      have hn30 : n ≤ 30 := by rw [← hl.out]; exact hl30
      have hm30 : m ≤ 30 := by rw [← ho.out]; exact ho30
      clear ho60 hl60 ho30 hl30
      replace P4 := Lib.hid P4; replace hlike := Lib.hid hlike; replace hfl := Lib.hid hfl; replace hll := Lib.hid hll; replace hAf := Lib.hid hAf; replace hCf := Lib.hid hCf
      go_wp2_with fail
      refine Calls.mono P3 ?_
      rintro e w4 ⟨v4, rfl, K4⟩
      have H4 := ((St.zero w).thru hbw3).add K4
      obtain ⟨a4, c4, rfl, _⟩ := St.slice (by omega) 0 H4 rfl
      have P5 := P4.out w4 c4 a4 (hO.out.below H4.below) (St.rd (by omega) 0 H4 rfl)
      clear P3 P4 K4 hbw3
      replace H4 := Lib.hid H4
      go_wp2_with fail
      refine Calls.mono P5 ?_
      rintro e w5 ⟨v5, rfl, K5⟩
      have H5 := H4.out.add K5
      obtain ⟨a5, c5, rfl, _⟩ := St.slice (by omega) 0 H5 rfl
      clear P5 H4 K5
      by_cases hae : ae = 0
      · by_cases hce : ce = 0
        · subst hae hce
          have hlk := hlike.out rfl rfl
          have P6 := agreed_any C C.length c5 a5 rfl hCf.out k w5 (St.rd (by omega) 0 H5 rfl)
          obtain ⟨mv, hmv⟩ : ∃ mv, agrF k C = mv := ⟨_, rfl⟩
          rw [hmv] at P6 hlk
          have hbw5 := H5.below
          clear hlike H5 hmv
          replace hlk := Lib.hid hlk
          go_wp2_with fail
          refine Calls.mono P6 ?_
          rintro e w6 ⟨rfl, hb6⟩
          have hbw6 := hbw5.trans (hb6.mono hbw5.size)
          clear P6 hbw5 hb6
          go_wp2_with fail
          go_loopg [13, 15] m (fun g mine i wr => ∃ j : Nat, j ≤ m ∧ g = j ∧ i = .int .i64 ((j : Int) - 1) ∧ mine = valS (findV (own.drop j) k) ∧ Below w.heap.size w wr)
          case atStart => exact ⟨m, by omega, rfl, rfl, by rw [List.drop_of_length_le (by have := ho.out; omega)]; rfl, hbw6⟩
          case round =>
            obtain ⟨j, hj, hg, hi, hmi, hbw⟩ := hrel
            clear hbw6
            cases j with
            | zero =>
              obtain rfl : _ = Value.int .i64 (-1) := hi
              rw [List.drop_zero] at hmi
              subst hmi
              clear hg hj
              obtain ⟨wo, hwo⟩ : ∃ wo : World, wo = wr := ⟨_, rfl⟩
              subst hwo
              unfold valS
              have hrdm := fun W (hW : Below w.heap.size w W) => findV_rd (hO.out.below hW) k
              have hml := hfl.out
              generalize findV own k = mi at *
              replace hrdm := Lib.hid hrdm
              go_wp2_with fail
              go_loopg [14, 16] n (fun g theirs i ws => ∃ q : Nat, q ≤ n ∧ g = n - q ∧ i = .int .i64 q ∧ theirs = valS (lastV (l.take q) k) ∧ Below w.heap.size w ws)
              case atStart => exact ⟨0, by omega, by omega, rfl, rfl, hbw⟩
              case round =>
                obtain ⟨q, hq, hg, rfl, rfl, hbs⟩ := hrel
                by_cases hlt : q < n
                · have hql : q < l.length := by have := hl.out; omega
                  obtain ⟨b1, o1, rfl, hb1, e0, e1⟩ := fes_at (hL.out.below hbs) hql
                  have hst := last_step (k := k) hql
                  unfold valS
                  cases his : isN k l[q] with
                  | true =>
                    rw [his, if_pos rfl] at hst
                    have r1 : (l[q].num == k) = true := his
                    generalize l[q] = x at *
                    generalize lastV (l.take q) k = ls at *
                    replace hst := Lib.hid hst; replace his := Lib.hid his
                    go_wp2_with fail
                    go_roundg (n - (q + 1))
                    case measure => omega
                    case rel => exact ⟨q + 1, by omega, rfl, by go_num, by rw [hst.out]; rfl, hbs⟩
                  | false =>
                    rw [his, if_neg (by simp)] at hst
                    have r1 : (l[q].num == k) = false := his
                    generalize l[q] = x at *
                    generalize lastV (l.take q) k = ls at *
                    replace hst := Lib.hid hst; replace his := Lib.hid his
                    go_wp2_with fail
                    go_roundg (n - (q + 1))
                    case measure => omega
                    case rel => exact ⟨q + 1, by omega, rfl, by go_num, by rw [hst.out]; rfl, hbs⟩
                · obtain rfl : q = n := by omega
                  rw [List.take_of_length_le (by have := hl.out; omega)]
                  have hrdt := last_rd (hL.out.below hbs) k
                  have htl := hll.out
                  generalize lastV l k = th at *
                  have P7 := rmeet_any mi.likes th.likes mi.likes.length th.likes.length rfl rfl (by omega) (by omega) mi.a th.a mi.cap th.cap wr (hrdm.out wr hbs) hrdt
                  rw [← hlk.out] at P7
                  have r1 : (mv.1 == mv.1) = true := by simp
                  have r2 : (mv.2 == mv.2) = true := by simp
                  unfold valS
                  clear hrdt
                  go_wp2_with fail
                  refine Calls.mono P7 ?_
                  rintro e w7 ⟨rfl, hb7⟩
                  have hbw7 := hbs.trans (hb7.mono hbs.size)
                  clear P7
                  go_wp2_with fail
                  go_ret
                  exact Ret.mk rfl hbw7
            | succ j =>
              have hi2 : ((j + 1 : Nat) : Int) - 1 = (j : Int) := by omega
              rw [hi2] at hi
              subst hi hmi
              have hjl : j < own.length := by have := ho.out; omega
              obtain ⟨b1, o1, rfl, hb1, e0, e1⟩ := fes_at (hO.out.below hbw) hjl
              have hst := find_drop (k := k) hjl
              unfold valS
              have hjm : j < m := by omega
              cases his : isN k own[j] with
              | true =>
                rw [his, if_pos rfl] at hst
                have r1 : (own[j].num == k) = true := his
                generalize own[j] = x at *
                generalize findV (own.drop (j + 1)) k = ls at *
                replace hst := Lib.hid hst; replace his := Lib.hid his
                go_wp2_with fail
                go_roundg j
                case measure => omega
                case rel => exact ⟨j, by omega, rfl, by go_num, by rw [hst.out]; rfl, hbw⟩
              | false =>
                rw [his, if_neg (by simp)] at hst
                have r1 : (own[j].num == k) = false := his
                generalize own[j] = x at *
                generalize findV (own.drop (j + 1)) k = ls at *
                replace hst := Lib.hid hst; replace his := Lib.hid his
                go_wp2_with fail
                go_roundg j
                case measure => omega
                case rel => exact ⟨j, by omega, rfl, by go_num, by rw [hst.out]; rfl, hbw⟩
        · have q1 : (ce != 0) = true := by simp [hce]
          have q2 : (ae != 0) = false := by simp [hae]
          clear hlike
          replace H5 := Lib.hid H5; replace hae := Lib.hid hae; replace hce := Lib.hid hce
          go_wp2_with fail
          go_ret
          exact H5.out.ret rfl
      · have q2 : (ae != 0) = true := by simp [hae]
        clear hlike
        replace H5 := Lib.hid H5; replace hae := Lib.hid hae
        go_wp2_with fail
        go_ret
        exact H5.out.ret rfl
end Go.Proofs.Ytljgmephajocaaa.Feat
