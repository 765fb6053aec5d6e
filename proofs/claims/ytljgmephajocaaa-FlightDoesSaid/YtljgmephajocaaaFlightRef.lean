/- The walks of the flight's answer: Put. -/
import Derived.Test.YtljgmephajocaaaFlightOnce
import Derived.Test.YtljgmephajocaaaAvecRAtF
import Derived.Test.YtljgmephajocaaaMadeT
import Derived.WalkSpells
namespace Go.Proofs.Ytljgmephajocaaa.Flight
set_option linter.unusedSimpArgs false
set_option linter.unusedVariables false
open Go Go.RowKit Go.Shelf Go.Proofs.Ytljgmephajocaaa Go.Proofs.Ytljgmephajocaaa.Circ Go.Proofs.Ytljgmephajocaaa.Avec
attribute [local irreducible] Calls

def encU (u : Un) : List Value := [.int .i64 u.seq, .int .i64 u.at_, .int .i64 u.later]
def encUs (l : List Un) : List Value := l.flatMap encU
theorem encU_len (u : Un) : (encU u).length = 3 := rfl
theorem encUs_len (l : List Un) : (encUs l).length = l.length * 3 := flat_len encU_len l
theorem encUs_app (l : List Un) (u : Un) : encUs l ++ encU u = encUs (l ++ [u]) := by simp [encUs]
theorem encUs_one (l : List Un) : ∀ u ∈ encUs l, u.oneCell' = true := by
  intro u hu
  obtain ⟨x, _, h⟩ := List.mem_flatMap.1 hu
  have : ∀ u ∈ encU x, u.oneCell' = true := by simp [encU, Value.oneCell']
  exact this u h
theorem un_info : (Try.prog.info? 86).map (fun i => (i.zero, i.size, i.bytes)) = some (some (.agg #[.int .i64 0, .int .i64 0, .int .i64 0]), 3, 24) := by kernel_rfl
def refF (b : Nat) (l : List Un) : Asn := exA fun v => sepA [cellA b [v], rowA 3 v l.length (encUs l)]
theorem refF_parts {W w : World} {S : Nat → Prop} {b : Nat} {l : List Un} {r : List Asn} (h : St W S w (refF b l :: r)) :
    ∃ a cap, St W S w (cellA b [.slice a l.length cap] :: rowA 3 (.slice a l.length cap) l.length (encUs l) :: r) := by
  obtain ⟨v, h1⟩ := St.unex 0 h rfl
  have h2 : St W S w (cellA b [v] :: rowA 3 v l.length (encUs l) :: r) := St.unsep 0 h1 rfl
  obtain ⟨a, cap, rfl, _⟩ := St.slice (by omega) 1 h2 rfl
  exact ⟨a, cap, h2⟩
theorem refF_shut {W w : World} {S : Nat → Prop} {b : Nat} {l : List Un} {v : Value} {r : List Asn} (h : St W S w (cellA b [v] :: rowA 3 v l.length (encUs l) :: r)) : St W S w (refF b l :: r) :=
  St.ex (fun v => sepA [cellA b [v], rowA 3 v l.length (encUs l)]) v (St.join [_, _] r h)
theorem refF_shut' {W w : World} {S : Nat → Prop} {b n : Nat} {l : List Un} {v : Value} {r : List Asn} (hn : l.length = n) (h : St W S w (cellA b [v] :: rowA 3 v n (encUs l) :: r)) : St W S w (refF b l :: r) := by
  subst hn
  exact refF_shut h

set_option maxRecDepth 100000 in
set_option maxHeartbeats 1000000 in
theorem rput_any (q : Nat) (l : List Un) (seq now : Int) (w : World) (S : Nat → Prop) (h : (refF q l).holds w S) (hl : l.length ≤ 64) :
    Calls Try.prog 45 #[.pointer (some ⟨q, 0, none⟩), .int .i64 seq, .int .i64 now] w (Fin w S (.bool (putOk l)) [refF q (putU l 0 seq now)]) := by
  have H0 : St w S w [refF q l] := St.start (Sep.one h)
  obtain ⟨ga, cap, H⟩ := refF_parts H0
  obtain ⟨z, cc, f⟩ := H.box 0 rfl
  have R := St.rd (by omega) 1 H rfl
  unfold putU putOk
  clear h
  by_cases h8 : l.length < 64
  · have q8 : decide (64 ≤ (l.length : Int)) = false := decide_eq_false (by omega)
    rw [if_pos h8, decide_eq_true (by omega : (l.length : Int) < 64)]
    obtain ⟨i0, hi, hz, hz1, hz2⟩ := info_parts un_info
    have ga0 : ga = none → l.length = 0 := by
      intro e
      subst e
      rcases R with R | ⟨_, _, e, _⟩
      · have := congrArg List.length R
        rw [encUs_len, List.length_nil] at this
        omega
      · cases e
    have E2 := (H.alloc [] 86).row_empty (size := 3) 0 rfl
    have hr2 := R.below ((Below.refl w.heap.size w).alloc (Nat.le_refl _) (.cells #[] 86))
    replace H := Lib.hid H; replace H0 := Lib.hid H0; replace R := Lib.hid R; replace ga0 := Lib.hid ga0; replace E2 := Lib.hid E2; replace hr2 := Lib.hid hr2
    go_enter Try.func45, Try.ntmps45
    go_wp2_with (at_builtin; (refine wpList_appRd rfl (.tmp 14) (.tmp 18) _ rfl 86 i0 _ 3 24 Try.underlying77 hi hz hz1 hz2 rfl (by omega) 0 _ 0 [] rfl E2.out rfl ga l.length cap (encUs l) rfl (encUs_len l) hr2.out ga0.out (encUs_one l) (by omega) (by omega) ?_; intro wv5 w5 H5; (try simp only [Nat.zero_add, List.nil_append] at H5)))
    refine Calls.mono (rof_any seq _) ?_
    rintro e w6 ⟨rfl, hb6⟩
    obtain ⟨ga5, cap5, rfl, _⟩ := St.slice (by omega) 0 H5 rfl
    have H6 := (H5.thru hb6).alloc [.int .i64 (ofC seq), .int .i64 (min (max now 0) 1099511627776), .int .i64 0] 86
    have hone : Rd (w6.alloc (.cells #[.int .i64 (ofC seq), .int .i64 (min (max now 0) 1099511627776), .int .i64 0] 86)) (some ⟨w6.heap.size, 0, none⟩) [.int .i64 (ofC seq), .int .i64 (min (max now 0) 1099511627776), .int .i64 0] := (St.box 0 H6 rfl).rd
    clear E2 H5 hr2 R H0 H
    replace H6 := Lib.hid H6; replace hone := Lib.hid hone
    go_wp2_with (at_builtin; (refine wpList_appRd rfl (.tmp 19) (.tmp 26) _ rfl 86 i0 _ 3 24 Try.underlying77 hi hz hz1 hz2 rfl (by omega) 1 _ l.length (encUs l) rfl H6.out rfl _ 1 1 [.int .i64 (ofC seq), .int .i64 (min (max now 0) 1099511627776), .int .i64 0] rfl rfl hone.out (by simp) (by simp [Value.oneCell']) (by omega) (by omega) ?_; intro wv6 w7 H7; obtain ⟨ga7, cap7, rfl, _⟩ := St.slice (by omega) 0 H7 rfl; obtain ⟨zq, cq, fq⟩ := St.box 2 H7 rfl; replace H7 := Lib.hid H7))
    go_ret
    have HG := St.set 2 H7.out rfl 0 (.slice ga7 (l.length + 1) cap7) (by simp)
    have HK := HG.arrN [0, 1] rfl
    rw [show encUs l ++ [Value.int .i64 (ofC seq), .int .i64 (min (max now 0) 1099511627776), .int .i64 0] = encUs (l ++ [⟨0, ofC seq, timeV now, 0⟩]) from encUs_app l ⟨0, ofC seq, timeV now, 0⟩] at HK
    exact ⟨rfl, (refF_shut' (l := l ++ [⟨0, ofC seq, timeV now, 0⟩]) (n := l.length + 1) (by rw [List.length_append]; rfl) HK).drops 1⟩
  · have q8 : decide (64 ≤ (l.length : Int)) = true := decide_eq_true (by omega)
    rw [if_neg h8, decide_eq_false (by omega : ¬ (l.length : Int) < 64)]
    replace H := Lib.hid H; replace H0 := Lib.hid H0
    go_enter Try.func45, Try.ntmps45
    go_wp2_with fail
    go_ret
    exact ⟨rfl, H0.out⟩
end Go.Proofs.Ytljgmephajocaaa.Flight
