/- The walks of the package ccid: Took and Owes, as far as works goes; works. -/
import Derived.Test.YtibidmenpoiacaaCcidCame
namespace Go.Proofs.Ytibidmenpoiacaa.Ccid
set_option linter.unusedSimpArgs false
set_option linter.unusedVariables false
open Go Go.RowKit Go.Shelf Go.Proofs.Ytibidmenpoiacaa Go.Proofs.Ytibidmenpoiacaa.Circ
open Go.Proofs.Ytibidmenpoiacaa.Flight (Un flightA putU putOk timeV OkU newsV newsL hearA leftU lostU)
open Go.Proofs.Ytibidmenpoiacaa.Heard (Hd heardA gotH)
open Go.Proofs.Ytibidmenpoiacaa.Avec (Run runs findV eachL)
attribute [local irreducible] Calls

theorem rd_still {W w : World} {S0 S1 : Nat → Prop} {b : Nat} {vs : List Value} {l' l2 : List Asn} (k : Nat) (hk : ∀ w' l'', St w S1 w' l'' → St W S0 w' (l'' ++ l')) (hi : l'[k]? = some (cellA b vs)) (w' : World) (ho : Only w w' S1) : Rd w' (some ⟨b, 0, none⟩) vs := by
  have H := hk w' [] ⟨ho, fun _ => False, fun _ h => h, fun _ h => h.elim⟩
  obtain ⟨z, c, _⟩ := St.box k H hi
  exact .inr ⟨b, 0, rfl, z, fun j u hu => by rw [Nat.zero_add, c]; exact hu⟩
def wR : List Run := [⟨0, 3⟩]
def wU (l : List Un) : List (Int × Int × Int) := l.map fun u => (u.seq, u.at_, u.later)
theorem w_took {l : List Un} (h : wU l = [(0, 0, 0), (1, 0, 0), (2, 0, 0)]) : newsV (hearA (fun s => findV (eachL 2 wR) (ofC s)) (timeV 4) l) = .agg #[.int .i64 3, .int .i64 0, .int .i64 0, .int .i64 4, .int .i64 0] ∧ leftU (hearA (fun s => findV (eachL 2 wR) (ofC s)) (timeV 4) l).ahead = [] ∧ l.length = 3 ∧ ∀ u ∈ l, OkU u := by
  replace h : l.map (fun u => (u.seq, u.at_, u.later)) = [(0, 0, 0), (1, 0, 0), (2, 0, 0)] := h
  obtain ⟨u1, l1, rfl, h1, h⟩ := List.map_eq_cons_iff.1 h
  obtain ⟨u2, l2, rfl, h2, h⟩ := List.map_eq_cons_iff.1 h
  obtain ⟨u3, l3, rfl, h3, h⟩ := List.map_eq_cons_iff.1 h
  obtain rfl := List.map_eq_nil_iff.1 h
  obtain ⟨b1, s1, a1, t1⟩ := u1
  obtain ⟨b2, s2, a2, t2⟩ := u2
  obtain ⟨b3, s3, a3, t3⟩ := u3
  injection h1 with h1 h1'
  injection h1' with h1' h1''
  injection h2 with h2 h2'
  injection h2' with h2' h2''
  injection h3 with h3 h3'
  injection h3' with h3' h3''
  simp only at h1 h1' h1'' h2 h2' h2'' h3 h3' h3''
  subst h1 h1' h1'' h2 h2' h2'' h3 h3' h3''
  refine ⟨rfl, rfl, rfl, ?_⟩
  intro u hu
  simp only [List.mem_cons, List.not_mem_nil, or_false] at hu
  unfold OkU
  rcases hu with rfl | rfl | rfl <;> simp
set_option maxRecDepth 100000 in
theorem took_st {W w : World} {S : Nat → Prop} {b rb : Nat} {hd : Hd} {l : List Un} {r : List Asn} (hl : wU l = [(0, 0, 0), (1, 0, 0), (2, 0, 0)]) (H : St W S w (ctlA b hd l x0 :: cellA rb (runs wR) :: r)) :
    Calls Try.prog 12 #[.pointer (some ⟨b, 0, none⟩), .int .i64 2, .slice (some ⟨rb, 0, none⟩) 1 1, .int .i64 3, .int .i64 4] w (fun e w' => e = .returned (.int .i64 3) ∧ St W S w' (ctlA b hd [] x1 :: cellA rb (runs wR) :: r)) := by
  obtain ⟨hnews, hleft, hlen, hok⟩ := w_took hl
  have P1 := room_st (by decide) H
  rw [show x0.s = 3 from rfl, hlen] at P1
  have P1' : Calls Try.prog 10 #[.pointer (some ⟨b, 0, none⟩)] w (Ret w (.bool false)) := P1
  clear P1
  replace P1' := Lib.hid P1'; replace H := Lib.hid H; replace hlen := Lib.hid hlen; replace hok := Lib.hid hok; replace hnews := Lib.hid hnews; replace hleft := Lib.hid hleft; replace hl := Lib.hid hl
  go_enter Try.func12, Try.ntmps12
  go_wp2_with fail
  refine Calls.mono (P1'.out) ?_
  rintro e w1 ⟨rfl, hb1⟩
  have z1 := Below.size hb1; try simp only [World.size_alloc, World.size_setCell, World.size_drew] at z1
  have H1 := H.out.thru hb1
  obtain ⟨p, f, H2⟩ := ctl_parts H1
  obtain ⟨z2, c2, f2⟩ := H2.box 0 rfl
  unfold ccV x0 at c2
  obtain ⟨S1, h1, _, k1⟩ := (H2.arrN [2, 0, 1, 3] rfl).at 0 rfl
  have P2 := Flight.took_any f l (by have := hlen.out; omega) hok.out 2 4 wR 1 1 rfl (by omega) (some ⟨rb, 0, none⟩) w1 S1 (fun w' ho => rd_still (l2 := []) 2 k1 rfl w' ho) h1
  rw [hnews.out, hleft.out] at P2
  clear P1' H H1 h1
  replace P2 := Lib.hid P2; replace k1 := Lib.hid k1; replace H2 := Lib.hid H2
  go_wp2_with fail
  refine Calls.mono P2.out ?_
  rintro e w2 ⟨rfl, h2⟩
  have H3 := k1.out _ _ h2
  have H4 : St W S w2 (cellA b (ccV p f x0) :: flightA f [] :: heardA p hd :: cellA rb (runs wR) :: r) := H3.arrN [1, 0, 2, 3] rfl
  have H5 := (H4.alloc [.int .i64 3, .int .i64 0, .int .i64 0, .int .i64 4, .int .i64 0] 50).arrN [1, 0] rfl
  have P3 := came_st 0 H5
  clear P2 k1 H2 H3 H4 z2 c2 f2
  replace P3 := Lib.hid P3; replace H5 := Lib.hid H5
  go_wp2_with fail
  refine Calls.mono P3.out ?_
  rintro e w3 ⟨rfl, H6⟩
  obtain ⟨z6, c6, f6⟩ := H6.box 0 rfl
  obtain ⟨z7, c7, f7⟩ := H6.box 1 rfl
  unfold ccV x1 at c6
  clear P3 H5
  replace H6 := Lib.hid H6
  go_wp2_with fail
  refine wp_region_near_tail 13 (by kernel_rfl) (by kernel_rfl) ?_
  intro hs
  simp only [List.take_succ_cons, List.take_zero, List.drop_succ_cons, List.drop_zero]
  repeat (go_big_quiet_step ((first | (go_at_call 32; exact Calls.near (by simp) (size_law _)) | (go_at_call 31; exact Calls.near (by simp) (fit_law _)))))
  refine wpQuiet_nil ?_
  clear hs
  intro w4 hb4
  have H7 := H6.out.thru hb4
  clear H6 z6 c6 f6 z7 c7 f7
  obtain ⟨z6, c6, f6⟩ := H7.box 0 rfl
  obtain ⟨z7, c7, f7⟩ := H7.box 1 rfl
  have m1 : ¬ b = w2.heap.size := H7.ne_cells 0 1 rfl rfl (by decide)
  have m1' : ¬ w2.heap.size = b := fun e => m1 e.symm
  unfold ccV x1 at c6
  have H8 := (H7.set 0 rfl 7 (.int .i64 1) (by simp [ccV])).set 0 rfl 8 (.int .i64 0) (by simp [ccV])
  replace H7 := Lib.hid H7; replace H8 := Lib.hid H8
  go_wp2_with fail
  go_ret
  exact ⟨rfl, ctl_shut (p := p) (f := f) (x := x1) ((H8.out.drop 1 rfl).arrN [0, 2, 1] rfl)⟩
end Go.Proofs.Ytibidmenpoiacaa.Ccid
