/- The walks of the fields' read. -/
import Derived.Test.YtpajedpkdfacoaaMpPut
namespace Go.Proofs.Ytpajedpkdfacoaa.Mp
set_option linter.unusedSimpArgs false
set_option linter.unusedVariables false
open Go Go.RowKit Go.Shelf Go.Proofs.Ytpajedpkdfacoaa Go.Proofs.Ytpajedpkdfacoaa.Octets
attribute [local irreducible] Calls

set_option maxRecDepth 100000 in
theorem nread_st {W w : World} {S0 : Nat → Prop} {r : List Asn} (m : Mu) (mb c : Nat) (t : ByteArray) (at_ : Nat) (fell : Int) (hok : okCut t at_ fell) (i s : Nat) (hi : 1 ≤ i ∧ i ≤ 5) (hs : 1 ≤ s ∧ s ≤ 6) (H : St W S0 w (cellA mb (encM m) :: cellA c (cut t at_ fell) :: r)) :
    Calls Try.prog 167 #[.agg #[.func (.func (fnM i)) #[] #[], .int .i64 s], .pointer (some ⟨c, 0, none⟩), .pointer (some ⟨mb, 0, none⟩)] w
      (fun e w' => (∃ v, e = .returned v) ∧ St W S0 w' (cellA mb (encM (setM m i (numV t at_ fell s))) :: cellA c (cut t (numA t at_ fell s) (numF t at_ fell s)) :: r)) := by
  have hG := fn_enters i hi
  have H1 := H.alloc [.func (.func (fnM i)) #[] #[], .int .i64 s] 124
  have HC : St W S0 _ [cellA w.heap.size [.func (.func (fnM i)) #[] #[], .int .i64 s]] := H1.drops 1
  have hcl : ∀ (s' : Cls W S0 [cellA w.heap.size [.func (.func (fnM i)) #[] #[], .int .i64 s]]) (k : Nat), s'.it.cell? ⟨w.heap.size, k, none⟩ = [Value.func (.func (fnM i)) #[] #[], .int .i64 s][k]? := fun s' => (s'.st.box 0 rfl).cells
  obtain ⟨zb, cb, fb⟩ := H1.box 0 rfl
  have zm := (H1.drew.box 1 rfl).lt
  have P := at_any i hi mb _ zm
  clear H
  replace HC := Lib.hid HC; replace H1 := Lib.hid H1; replace P := Lib.hid P; replace hok := Lib.hid hok; replace hi := Lib.hid hi; replace hs := Lib.hid hs
  go_enter Try.func167, Try.ntmps167
  go_wp2_with fail
  haveI := St.ne HC.out
  refine wp_region_madeC HC.out [0, 1, 2, 4, 5, 6] [true, true, true, false, true, true, true, false, false, false] 4 #[true, true, true, false, true, true, true, false, false, false] (by kernel_rfl) rfl (by kernel_rfl) (by kernel_rfl) rfl (by kernel_rfl) (by kernel_rfl) (by intro c a a' w e h; obtain ⟨t, d⟩ := a; obtain ⟨t', d'⟩ := a'; obtain rfl : d = d' := e; exact h) ?_
  simp only [pickB]
  repeat (go_big_quiet_step (fail))
  refine wpQuiet_nil ?_
  refine held_one (i := 3) (by kernel_rfl) fun K hK => ?_
  simp only [List.drop_succ_cons, List.drop_zero, List.take_succ_cons, List.take_zero]
  go_wp2_with fail
  refine Calls.mono P.out ?_
  rintro e w3 ⟨rfl, hb3⟩
  have H3 := H1.out.drew.thru hb3
  have HC3 : St W S0 w3 [cellA w.heap.size [.func (.func (fnM i)) #[] #[], .int .i64 s]] := H3.drops 1
  clear P H1 HC
  replace HC3 := Lib.hid HC3; replace H3 := Lib.hid H3
  go_wp2_with fail
  refine hK _ _ HC3.out ?_
  clear hK K
  refine held_one (i := 7) (by kernel_rfl) fun K hK => ?_
  simp only [List.drop_succ_cons, List.drop_zero, List.take_succ_cons, List.take_zero]
  have P7 := num_any c t at_ fell s w3 (H3.out.box 2 rfl) hok.out (by have := hs.out; omega)
  replace P7 := Lib.hid P7
  go_wp2_with fail
  refine Calls.mono P7.out ?_
  rintro e w4 h4
  obtain ⟨rfl, H4⟩ := St.ofC (H3.out.arrN [2, 0, 1] rfl) h4
  have HC4 : St W S0 w4 [cellA w.heap.size [.func (.func (fnM i)) #[] #[], .int .i64 s]] := (H4.arrN [1, 0] rfl).drops 1
  obtain ⟨zm4, cm4, fm4⟩ := H4.box 2 rfl
  have ci := (cm4 i).trans (encM_at m i hi.out)
  have H5 := H4.set 2 rfl i (.int .i64 (numV t at_ fell s)) (by rw [encM_len]; have := hi.out; omega)
  rw [encM_set m i hi.out] at H5
  have HC5 : St W S0 _ [cellA w.heap.size [.func (.func (fnM i)) #[] #[], .int .i64 s]] := (H5.arrN [2, 0, 1] rfl).drops 1
  clear P7 HC3 H3 h4 cm4 H4
  replace HC4 := Lib.hid HC4; replace H5 := Lib.hid H5; replace HC5 := Lib.hid HC5
  go_wp2_with fail
  refine hK _ _ HC4.out ?_
  clear hK K
  haveI := St.ne HC4.out
  refine calmC HC4.out [8] [false, false, false, false, false, false, false, false, true, false] 1 2 #[true, true, true, true, true, true, true, true, false, false] #[true, true, true, true, true, true, true, true, true, false] rfl (by kernel_rfl) (by kernel_rfl) rfl (by kernel_rfl) (by kernel_rfl) (by intro c a a' w e h; obtain ⟨t, d⟩ := a; obtain ⟨t', d'⟩ := a'; obtain rfl : d = d' := e; exact h) ?_
  simp only [pickB]
  repeat (go_big_quiet_step (fail))
  refine wpQuiet_nil ?_
  refine held_one (i := 9) (by kernel_rfl) fun K hK => ?_
  simp only [List.drop_succ_cons, List.drop_zero, List.take_succ_cons, List.take_zero]
  go_wp2_with fail
  refine hK _ _ HC5.out ?_
  clear hK K
  refine held_done (by kernel_rfl) ?_
  go_wp2_with fail
  go_end0
  exact ⟨⟨_, rfl⟩, (H5.out.arrN [0, 1, 2] rfl).drop 2 rfl⟩
end Go.Proofs.Ytpajedpkdfacoaa.Mp
