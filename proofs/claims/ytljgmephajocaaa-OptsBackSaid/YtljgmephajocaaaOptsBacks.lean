/- The walk of the statement OptsBack. -/
import Derived.Test.YtljgmephajocaaaOptsBack
namespace Go.Proofs.Ytljgmephajocaaa.Opts
set_option linter.unusedSimpArgs false
set_option linter.unusedVariables false
open Go Go.RowKit Go.Shelf Go.Proofs.Ytljgmephajocaaa
attribute [local irreducible] Calls


set_option maxRecDepth 100000 in
set_option maxHeartbeats 1600000 in
theorem back_walk (a : Option Addr) (n cap : Nat) (s : ByteArray) (hs : s.size ≤ maxLen) (w : World) (h0 : Fits w (.slice 2 (.cons 1 (.int .i64) (.cons 1 .str .nil))) [.slice a n cap]) :
    Calls Try.prog 6 #[.slice a n cap, .string s] w (Ret w (.bool true)) := by
  obtain ⟨hn, _, L, hl, hgood, hL⟩ := els_in h0
  unfold maxLen at hs
  have PG := fun W hW => great_any L n hl hn (fun o ho => (hgood o ho).2) a cap W (hL.below hW)
  unfold maxLen at hn
  clear h0
  have hck : True := trivial
  replace hl := Lib.hid hl; replace hL := Lib.hid hL; replace hgood := Lib.hid hgood
  go_enter Try.func6, Try.ntmps6
  go_wp2_with fail
  refine Calls.mono (works_law _) ?_
  rintro e w1 ⟨rfl, hb1⟩
  have P1 := PG w1 hb1
  clear PG
  cases hbig : bigO L with
  | true =>
    rw [hbig] at P1
    go_wp2_with fail
    refine Calls.mono P1 ?_
    rintro e w2 ⟨rfl, hb2⟩
    have hbw2 := hb1.trans (hb2.mono hb1.size)
    clear P1
    go_wp2_with fail
    go_ret
    exact Ret.mk rfl hbw2
  | false =>
    rw [hbig] at P1
    obtain ⟨hL60, hL600⟩ := big_no hbig
    have hfew : Few L := ⟨by omega, fun x hx => ⟨(hgood.out x hx).1, by have := hL600 x hx; omega⟩⟩
    clear hL600
    replace hfew := Lib.hid hfew
    by_cases h2000 : 2000 < s.size
    · have q : decide ((2000 : Int) < s.size) = true := decide_eq_true (by omega)
      go_wp2_with fail
      refine Calls.mono P1 ?_
      rintro e w2 ⟨rfl, hb2⟩
      have hbw2 := hb1.trans (hb2.mono hb1.size)
      clear P1
      go_wp2_with fail
      go_ret
      exact Ret.mk rfl hbw2
    · have q : decide ((2000 : Int) < s.size) = false := decide_eq_false (by omega)
      have hs2 : s.size ≤ 3000 := by omega
      go_wp2_with fail
      refine Calls.mono P1 ?_
      rintro e w2 ⟨rfl, hb2⟩
      have hbw2 := hb1.trans (hb2.mono hb1.size)
      clear P1
      have P2 := put_any L n hl.out hfew.out a cap w2 (hL.out.below hbw2)
      by_cases hc : checkL L = 0
      · rw [if_pos hc, hc] at P2
        obtain ⟨hpl, hp4⟩ := putL_len hc
        have hus : (ByteArray.mk (putL L).toArray).size = (putL L).length := by simp only [ByteArray.size]; simp
        have hul : (ByteArray.mk (putL L).toArray).data.toList = putL L := rfl
        have P3 := fun W => get_any ⟨(putL L).toArray⟩ (by omega) W
        rw [hul] at P3
        have hg2 := getE_put hc
        have hg3 := got_put hc
        have q4 : ((((ByteArray.mk (putL L).toArray).size : Nat) : Int) % 4 != 0) = false := by rw [hus]; simp; omega
        have q4' : ((((putL L).length : Nat) : Int) % 4 != 0) = false := by simp; omega
        have q5 : ((((putL L).toArray.size : Nat) : Int) % 4 != 0) = false := by simp; omega
        have hus2 : (ByteArray.mk (putL L).toArray).size ≤ 3000 := by omega
        clear hul hus hpl hp4
        go_wp2_with fail
        refine Calls.mono P2 ?_
        rintro e w3 ⟨rfl, hb3⟩
        have hbw3 := hbw2.trans (hb3.mono hbw2.size)
        clear P2
        go_wp2_with fail
        refine Calls.mono (P3 _) ?_
        intro e w4 h4
        obtain ⟨v, rfl, H4⟩ := h4.st
        rw [hg3] at H4
        rw [hg2]
        have hbw4 := hbw3.trans (H4.below.mono hbw3.size)
        clear P3 h4 hg2 hg3
        obtain ⟨a4, c4, rfl, _⟩ := St.slice (by omega) 0 H4 rfl
        have P5 := same_any L L n L.length hl.out rfl (by have := hl.out; omega) (by omega) a a4 cap c4 w4 (hL.out.below hbw4) (St.rd (by omega) 0 H4 rfl)
        rw [sameL_self] at P5
        clear H4
        go_wp2_with fail
        refine Calls.mono P5 ?_
        rintro e w5 ⟨rfl, hb5⟩
        have hbw5 := hbw4.trans (hb5.mono hbw4.size)
        clear P5
        have P4 := fun W => get_any s hs2 W
        go_wp2_with fail
        refine Calls.mono (P4 _) ?_
        intro e w8 h8
        obtain ⟨v, rfl, H8⟩ := h8.st
        clear P4 h8
        obtain ⟨a8, c8, rfl, _⟩ := St.slice (by omega) 0 H8 rfl
        have hgf := got_few (l := s.data.toList) (by simpa using hs2)
        have hbw8 := hbw5.trans (H8.below.mono (hbw5).size)
        by_cases hge : getE s.data.toList = 0
        · have hck := getE_ok hge
          rw [hge] at *
          generalize got s.data.toList = G at *
          have P5 := put_any G G.length rfl hgf a8 c8 w8 (St.rd (by omega) 0 H8 rfl)
          rw [if_pos hck, hck] at P5
          have hul : (ByteArray.mk (putL G).toArray).data.toList = putL G := rfl
          have hus : (ByteArray.mk (putL G).toArray).size ≤ 3000 := by
            have := (putL_len hck).1
            simp only [ByteArray.size]
            simp
            omega
          have P6 := fun W => get_any ⟨(putL G).toArray⟩ hus W
          rw [hul] at P6
          have hg2 := getE_put hck
          have hg3 := got_put hck
          replace H8 := Lib.hid H8; replace hgf := Lib.hid hgf; replace hul := Lib.hid hul
          clear hge
          go_wp2_with fail
          refine Calls.mono P5 ?_
          rintro e w9 ⟨rfl, hb9⟩
          have H9 := H8.out.thru hb9
          have hbw9 := hbw8.trans (hb9.mono hbw8.size)
          clear P5 H8
          replace H9 := Lib.hid H9
          go_wp2_with fail
          refine Calls.mono (P6 _) ?_
          intro e w10 h10
          obtain ⟨v, rfl, H10⟩ := h10.st
          rw [hg3] at H10
          rw [hg2]
          have H11 := H9.out.add H10
          have hbw10 := hbw9.trans (H10.below.mono hbw9.size)
          clear P6 h10 H9 H10 hg2 hg3
          obtain ⟨a10, c10, rfl, _⟩ := St.slice (by omega) 0 H11 rfl
          have P7 := same_any G G G.length G.length rfl rfl hgf.out.1 hgf.out.1 a8 a10 c8 c10 w10 (St.rd (by omega) 1 H11 rfl) (St.rd (by omega) 0 H11 rfl)
          rw [sameL_self] at P7
          clear H11
          go_wp2_with fail
          refine Calls.mono P7 ?_
          rintro e w11 ⟨rfl, hb11⟩
          have hbw11 := hbw10.trans (hb11.mono hbw10.size)
          go_wp2_with fail
          go_ret
          exact Ret.mk rfl hbw11
        · have hg0 := got_no hge
          rw [hg0] at *
          have qn : (getE s.data.toList != 0) = true := by simp [hge]
          generalize getE s.data.toList = ge at *
          clear hck hge H8 hgf hg0
          go_wp2_with fail
          go_ret
          exact Ret.mk rfl hbw8
      · have qc : (checkL L == 0) = false := by simp [hc]
        rw [if_neg hc] at P2
        generalize checkL L = ck at *
        clear hc
        go_wp2_with fail
        refine Calls.mono P2 ?_
        rintro e w3 ⟨rfl, hb3⟩
        have hbw3 := hbw2.trans (hb3.mono hbw2.size)
        clear P2
        have P4 := fun W => get_any s hs2 W
        go_wp2_with fail
        refine Calls.mono (P4 _) ?_
        intro e w8 h8
        obtain ⟨v, rfl, H8⟩ := h8.st
        clear P4 h8
        obtain ⟨a8, c8, rfl, _⟩ := St.slice (by omega) 0 H8 rfl
        have hgf := got_few (l := s.data.toList) (by simpa using hs2)
        have hbw8 := hbw3.trans (H8.below.mono (hbw3).size)
        by_cases hge : getE s.data.toList = 0
        · have hck := getE_ok hge
          rw [hge] at *
          generalize got s.data.toList = G at *
          have P5 := put_any G G.length rfl hgf a8 c8 w8 (St.rd (by omega) 0 H8 rfl)
          rw [if_pos hck, hck] at P5
          have hul : (ByteArray.mk (putL G).toArray).data.toList = putL G := rfl
          have hus : (ByteArray.mk (putL G).toArray).size ≤ 3000 := by
            have := (putL_len hck).1
            simp only [ByteArray.size]
            simp
            omega
          have P6 := fun W => get_any ⟨(putL G).toArray⟩ hus W
          rw [hul] at P6
          have hg2 := getE_put hck
          have hg3 := got_put hck
          replace H8 := Lib.hid H8; replace hgf := Lib.hid hgf; replace hul := Lib.hid hul
          clear hge
          go_wp2_with fail
          refine Calls.mono P5 ?_
          rintro e w9 ⟨rfl, hb9⟩
          have H9 := H8.out.thru hb9
          have hbw9 := hbw8.trans (hb9.mono hbw8.size)
          clear P5 H8
          replace H9 := Lib.hid H9
          go_wp2_with fail
          refine Calls.mono (P6 _) ?_
          intro e w10 h10
          obtain ⟨v, rfl, H10⟩ := h10.st
          rw [hg3] at H10
          rw [hg2]
          have H11 := H9.out.add H10
          have hbw10 := hbw9.trans (H10.below.mono hbw9.size)
          clear P6 h10 H9 H10 hg2 hg3
          obtain ⟨a10, c10, rfl, _⟩ := St.slice (by omega) 0 H11 rfl
          have P7 := same_any G G G.length G.length rfl rfl hgf.out.1 hgf.out.1 a8 a10 c8 c10 w10 (St.rd (by omega) 1 H11 rfl) (St.rd (by omega) 0 H11 rfl)
          rw [sameL_self] at P7
          clear H11
          go_wp2_with fail
          refine Calls.mono P7 ?_
          rintro e w11 ⟨rfl, hb11⟩
          have hbw11 := hbw10.trans (hb11.mono hbw10.size)
          go_wp2_with fail
          go_ret
          exact Ret.mk rfl hbw11
        · have hg0 := got_no hge
          rw [hg0] at *
          have qn : (getE s.data.toList != 0) = true := by simp [hge]
          generalize getE s.data.toList = ge at *
          clear hck hge H8 hgf hg0
          go_wp2_with fail
          go_ret
          exact Ret.mk rfl hbw8
end Go.Proofs.Ytljgmephajocaaa.Opts
