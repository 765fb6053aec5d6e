/- The walk of works. -/
import Derived.Test.YtljgmephajocaaaFlightLaw
namespace Go.Proofs.Ytljgmephajocaaa.Flight
set_option linter.unusedSimpArgs false
set_option linter.unusedVariables false
open Go Go.RowKit Go.Shelf Go.Proofs.Ytljgmephajocaaa Go.Proofs.Ytljgmephajocaaa.DockSPtr Go.Proofs.Ytljgmephajocaaa.Circ Go.Proofs.Ytljgmephajocaaa.Avec
attribute [local irreducible] Calls

/-- A row that stays as it is while a part is called. -/
theorem rd_still {W w : World} {S0 S1 : Nat → Prop} {b : Nat} {vs : List Value} {l' : List Asn} (hb : ∀ w' l'', St w S1 w' l'' → St W S0 w' (l'' ++ (cellA b vs :: l'))) (w' : World) (ho : Only w w' S1) : Rd w' (some ⟨b, 0, none⟩) vs := by
  have H := hb w' [] ⟨ho, fun _ => False, fun _ h => h, fun _ h => h.elim⟩
  obtain ⟨z, c, _⟩ := St.box 0 H rfl
  exact .inr ⟨b, 0, rfl, z, fun j u hu => by rw [Nat.zero_add, c]; exact hu⟩
set_option maxRecDepth 100000 in
set_option maxHeartbeats 400000 in
theorem works_law (w : World) : Calls Try.prog 29 #[] w (Ret w (.bool true)) := by
  go_enter Try.func29, Try.ntmps29
  go_wp2_with fail
  refine Calls.mono (new_any _) ?_
  rintro e w1 ⟨f, rfl, H1⟩
  replace H1 := Lib.hid H1
  go_wp2_with fail
  go_loopg [2] 5 (fun g i wr => ∃ (j : Nat) (l : List Un), j ≤ 5 ∧ Hid (g = 5 - j) ∧ i = .int .i64 ((j : Int) + 1) ∧ Hid (wU l = wN j) ∧ Hid (St w none0 wr [flightA f l]))
  case atStart => exact ⟨0, [], by omega, Lib.hid rfl, rfl, Lib.hid rfl, H1⟩
  case round =>
    clear H1
    obtain ⟨j, l, hj, hg, rfl, hu, HL⟩ := hrel
    have hlen : l.length = j := by have := congrArg List.length hu.out; simpa [wU, wN] using this
    by_cases hlt : j < 5
    · have q : decide ((j : Int) + 1 ≤ 5) = true := decide_eq_true (by omega)
      obtain ⟨S1, h1, _, c1⟩ := HL.out.at 0 rfl
      have P := put_any f l ((j : Int) + 1) ((j : Int) + 1) (by omega) wr S1 h1
      have hput := fun b => wU_put hu.out hlt b
      rw [(hput 0).2] at P
      clear hu h1 HL
      replace P := Lib.hid P; replace c1 := Lib.hid c1; replace hput := Lib.hid hput; replace hlen := Lib.hid hlen
      go_wp2_with fail
      refine Calls.mono P.out ?_
      rintro e w2 ⟨b, rfl, h2⟩
      have H2 := c1.out _ _ h2
      have hu2 := (hput.out b).1
      clear P hput c1 h2
      replace H2 := Lib.hid H2; replace hu2 := Lib.hid hu2
      go_wp2_with fail
      go_roundg (5 - (j + 1))
      case measure => have := hg.out; omega
      case rel => exact ⟨j + 1, _, by omega, Lib.hid rfl, by go_num, hu2, H2⟩
    · obtain rfl : j = 5 := by omega
      have H0 := (HL.out.alloc (runs wR) 128).arr [1, 0] rfl
      obtain ⟨S1, h1, _, c1⟩ := H0.at 0 rfl
      have P := took_any f l (by omega) (fun u hm => by
        have h2 : (u.seq, u.at_, u.later) ∈ wN 5 := by rw [← hu.out]; exact List.mem_map.2 ⟨u, hm, rfl⟩
        obtain ⟨i, hi, e⟩ := List.mem_map.1 h2
        have hi := List.mem_range.1 hi
        injection e with e1 e2
        injection e2 with e2 e3
        unfold OkU
        omega) 5 9 wR 1 1 rfl (by omega) (some ⟨wr.heap.size, 0, none⟩) _ S1 (fun w' ho => rd_still c1 w' ho) h1
      have ht := w_took hu.out
      unfold newsV at P
      rw [ht.1, ht.2] at P
      clear ht hu h1 HL H0
      replace P := Lib.hid P; replace c1 := Lib.hid c1; replace hlen := Lib.hid hlen
      go_wp2_with fail
      refine Calls.mono P.out ?_
      rintro e w2 ⟨rfl, h2⟩
      have H2 := c1.out _ _ h2
      clear P c1 h2
      have H3 := H2.alloc [.int .i64 3, .int .i64 2, .int .i64 0, .int .i64 4, .int .i64 2] 60
      obtain ⟨S3, h3, _, _⟩ := H3.at 1 rfl
      have P3 := pipe_any f [] _ S3 h3
      clear h3
      replace H2 := Lib.hid H2; replace H3 := Lib.hid H3; replace P3 := Lib.hid P3
      go_wp2_with fail
      refine Calls.mono P3.out ?_
      rintro e w3 ⟨rfl, hb3⟩
      have H4 := H3.out.thru hb3
      clear P3
      replace H4 := Lib.hid H4
      go_wp2_with fail
      go_ret
      exact Ret.mk rfl (St.below H4.out)
end Go.Proofs.Ytljgmephajocaaa.Flight
