
/- The walk of the package flight: Put. -/
import Derived.Test.YtpajedpkdfacoaaFlightC
import Derived.Test.YtpajedpkdfacoaaMadeTC
namespace Go.Proofs.Ytpajedpkdfacoaa.Flight
set_option linter.unusedSimpArgs false
set_option linter.unusedVariables false
open Go Go.RowKit Go.Shelf Go.Proofs.Ytpajedpkdfacoaa Go.Proofs.Ytpajedpkdfacoaa.DockSPtr Go.Proofs.Ytpajedpkdfacoaa.Circ
attribute [local irreducible] Calls
theorem put_none (seq now : Int) (w : World) : Calls Try.prog 83 #[.pointer none, .int .i64 seq, .int .i64 now] w (Ret w (.bool false)) := by
  go_enter Try.func83, Try.ntmps83
  go_wp2_with fail
  go_ret
  exact Ret.mk rfl (by repeat (first | with_reducible exact Below.refl _ _ | (with_reducible refine Below.al ?_) | (with_reducible refine Below.drew ?_) | (with_reducible refine Below.set ?_ (by first | (simp; done) | omega | (simp; omega))) | (with_reducible refine Below.thru ?_ (by assumption)) | (with_reducible refine Below.chg ?_ (by assumption) (by first | (simp; done) | omega | (simp; omega)))))
def putU (l : List Un) (b : Nat) (seq now : Int) : List Un := if l.length < 64 then l ++ [⟨b, ofC seq, timeV now, 0⟩] else l
def putOk (l : List Un) : Bool := decide ((l.length : Int) < 64)
set_option maxRecDepth 100000 in
theorem put_any (f : Nat) (l : List Un) (seq now : Int) (hl : l.length ≤ 1000) (w : World) (S : Nat → Prop) (h : (flightA f l).holds w S) :
    Calls Try.prog 83 #[.pointer (some ⟨f, 0, none⟩), .int .i64 seq, .int .i64 now] w
      (fun e w' => ∃ b, e = .returned (.bool (putOk l)) ∧ St w S w' [flightA f (putU l b seq now)]) := by
  have H0 : St w S w [flightA f l] := St.start (Sep.one h)
  obtain ⟨d, H⟩ := flight_parts H0
  clear H0 h
  have HC : St w S w [cellA f [.pointer (some ⟨d, 0, none⟩)]] := H.drops 1
  have hcl : ∀ (t : Cls w S [cellA f [.pointer (some ⟨d, 0, none⟩)]]) (o : Nat), t.it.cell? ⟨f, o, none⟩ = [Value.pointer (some ⟨d, 0, none⟩)][o]? := fun t => (t.st.box 0 rfl).cells
  replace H := Lib.hid H; replace HC := Lib.hid HC
  go_enter Try.func83, Try.ntmps83
  go_wp2_with fail
  haveI := St.ne HC.out
  refine wp_region_madeC HC.out [0, 1, 2, 3, 4, 6] [true, true, true, true, true, false, true, false, false, false, false, false] 6 #[true, true, true, true, true, false, true, false, false, false, false, false] (by kernel_rfl) rfl (by kernel_rfl) (by kernel_rfl) rfl (by kernel_rfl) (by kernel_rfl) (by intro c a a' w e h; obtain ⟨t, d⟩ := a; obtain ⟨t', d'⟩ := a'; obtain rfl : d = d' := e; exact h) ?_
  simp only [pickB]
  repeat (go_big_quiet_step (fail))
  refine wpQuiet_nil ?_
  have H1 := Lib.hid H.out.drew
  refine held_one (i := 5) (by kernel_rfl) fun K hK => ?_
  simp only [List.drop_succ_cons, List.drop_zero, List.take_succ_cons, List.take_zero]
  go_wp2_with fail
  refine Calls.mono (of_any seq _) ?_
  rintro e w1 ⟨rfl, hb1⟩
  replace H1 := Lib.hid (H1.out.thru hb1)
  go_wp2_with fail
  refine hK _ _ (H1.out.drops 1) ?_
  clear hK K
  refine held_one (i := 7) (by kernel_rfl) fun K hK => ?_
  simp only [List.drop_succ_cons, List.drop_zero, List.take_succ_cons, List.take_zero]
  go_wp2_with fail
  refine Calls.mono (time_any now _) ?_
  rintro e w2 ⟨rfl, hb2⟩
  replace H1 := Lib.hid (H1.out.thru hb2)
  go_wp2_with fail
  refine hK _ _ (H1.out.drops 1) ?_
  clear hK K
  refine held_one (i := 8) (by kernel_rfl) fun K hK => ?_
  simp only [List.drop_succ_cons, List.drop_zero, List.take_succ_cons, List.take_zero]
  go_wp2_with fail
  refine hK _ _ (H1.out.drops 1) ?_
  clear hK K
  refine held_one (i := 9) (by kernel_rfl) fun K hK => ?_
  simp only [List.drop_succ_cons, List.drop_zero, List.take_succ_cons, List.take_zero]
  have E1 := H1.out.alloc [.int .i64 (ofC seq), .int .i64 (timeV now), .int .i64 0] 166
  clear H1
  replace E1 := Lib.hid E1
  go_wp2_with fail
  refine hK _ _ ((E1.out.drop 0 rfl).drops 1) ?_
  clear hK K
  have P := Calls.st_at 2 E1.out rfl fun S h => push_any d 64 (l.map ptr) (some ⟨w2.heap.size, 0, none⟩) _ S h (by simp; omega)
  rw [List.length_map] at P
  change Calls _ _ _ _ (Fin _ _ (.bool (putOk l)) _) at P
  refine held_one (i := 10) (by kernel_rfl) fun K hK => ?_
  simp only [List.drop_succ_cons, List.drop_zero, List.take_succ_cons, List.take_zero]
  go_wp2_with fail
  refine Calls.mono P ?_
  rintro e w3 ⟨rfl, H3⟩
  have H4 : St w S w3 (cellA f [.pointer (some ⟨d, 0, none⟩)] :: dockA d 64 (if (l.length : Int) < 64 then l.map ptr ++ [some ⟨w2.heap.size, 0, none⟩] else l.map ptr) :: unsA l :: unA ⟨w2.heap.size, ofC seq, timeV now, 0⟩ :: []) := H3.arr [2, 0, 3, 1] rfl
  clear P E1 H3 hcl
  replace H4 := Lib.hid H4
  go_wp2_with fail
  refine hK _ _ (H4.out.drops 1) ?_
  clear hK K
  refine held_one (i := 11) (by kernel_rfl) fun K hK => ?_
  simp only [List.drop_succ_cons, List.drop_zero, List.take_succ_cons, List.take_zero]
  go_wp2_with fail
  refine hK _ _ (H4.out.drops 1) ?_
  clear hK K
  refine held_done (by kernel_rfl) ?_
  go_wp2_with fail
  go_ret
  refine ⟨w2.heap.size, rfl, ?_⟩
  have H5 := H4.out
  unfold putU
  by_cases hlt : l.length < 64
  · rw [if_pos (by omega : (l.length : Int) < 64)] at H5
    rw [if_pos hlt]
    refine flight_shut (d := d) ?_
    rw [List.map_append]
    exact (uns_add (H5.arr [3, 2, 0, 1] rfl)).arr [1, 2, 0] rfl
  · rw [if_neg (by omega : ¬ (l.length : Int) < 64)] at H5
    rw [if_neg hlt]
    exact flight_shut (d := d) (H5.drops 3)
end Go.Proofs.Ytpajedpkdfacoaa.Flight
